/- What is advertised: the place of a route, known; one more route. -/
import Derived.Test.YtkbbiaobohlogaaPart9
set_option linter.unusedVariables false
set_option linter.unusedSimpArgs false
namespace Go.Proofs.Ytkbbiaobohlogaa
open Go.Am
set_option maxRecDepth 100000
theorem cmpN_R (a : SV) (r : Rt) : cmpN (rE a).n.cs r.n.cs = cR a (.agg r.cs) := cmpN_eq _ _
theorem posL_drop (r : SV) {acc : List SV} {i : Nat} (h : i < acc.length) : posL r (acc.drop i) = bif decide (cR (acc.getD i .junk) r < 0) then posL r (acc.drop (i + 1)) + 1 else 0 := by
 rw [List.drop_eq_getElem_cons h]
 have e1 : acc.getD i .junk = acc[i] := by simp [List.getD_eq_getElem?_getD, h]
 rw [e1]; rfl
theorem cmG_run {n m : Nk} (h1 : okN n) (h2 : okN m) (K : CTree) : crun (cmG n.cs m.cs K) = crun K :=
 crun_gd (dec_iff.2 ⟨(nOf_cs n).symm, (nOf_cs m).symm, okN_of (nOf_cs n).symm h1, okN_of (nOf_cs m).symm h2⟩) K
theorem wi_valid : ValidL Try.prog e8a := loop_valid (κ := κ8a) (ι := fun _ => false) (T := ltab []) (sp := true) (fuel := 300) (c := c8a) (μ := wiM) ok8a mixTry ltab_nil (show fillC (ltab []) c8a = c8a by kernel_rfl) (by
 intro N args H r hb h
 unfold e8a wi_s at h
 simp only [] at h
 split at h
 · rename_i i m acc cs
   rw [crun_ite] at h
   cases hc : dec _ with
   | false => rw [hc] at h; cases h
   | true =>
    rw [hc, cond_true] at h
    obtain ⟨e1, hk⟩ := dec_iff.1 hc
    generalize rOf cs = q at e1 hk
    subst e1
    obtain ⟨k1, k2, k3, k4, k5⟩ := id hk
    refine (congrArg crun (wi_t N m acc q i)).trans ?_
    have hN : Nat.blt (m - i.toNat) (N + 1) = true := hb
    rw [Nat.blt_eq] at hN
    by_cases hi : i < m
    · have la : i.toNat < acc.length := by omega
      rw [Nat.zero_add, decide_eq_true hi, cond_true, crun_gd (show inB i m = true by unfold inB; simp; omega), crun_gd (decide_eq_true la)]
      have ha := okL_at k4 la
      rw [cmG_run ha.2.1 k5, cmpN_R]
      rw [posL_drop _ la] at h
      cases hd : decide (cR (acc.getD i.toNat .junk) (.agg q.cs) < 0) with
      | true =>
       rw [hd, cond_true] at h
       rw [cond_true, show w64 (i + 1) = i + 1 from w64_id (by omega) (by omega), show (i + 1).toNat = i.toNat + 1 by omega, crun_gd (by rw [Nat.blt_eq]; omega), crun_gd (dec_iff.2 ⟨(rOf_cs q).symm, k1, by omega, k3, k4, okN_of (n := q.n) rfl k5⟩)]
       rw [show i.toNat + (posL (SV.agg q.cs) (acc.drop (i.toNat + 1)) + 1) = i.toNat + 1 + posL (SV.agg q.cs) (acc.drop (i.toNat + 1)) by omega] at h
       exact h
      | false =>
       rw [hd, cond_false, Nat.add_zero, show ((i.toNat : Nat) : Int) = i by omega] at h
       exact h
    · rw [decide_eq_false hi, cond_false]
      rw [List.drop_eq_nil_of_le (by omega), posL, Nat.add_zero, show ((i.toNat : Nat) : Int) = i by omega] at h
      exact h
 · cases h)
/- One more. -/
def zRt (r : Rt) : Rt := { r with p := 0, st := false }
def zR (x : SV) : SV := .agg (zRt (rE x)).cs
noncomputable def insR (r : SV) (acc : List SV) : List SV :=
 bif decide (posL r acc < acc.length) && (cR (acc.getD (posL r acc) .junk) r == 0) then setN acc (posL r acc) r else acc.take (posL r acc) ++ [r] ++ acc.drop (posL r acc)
noncomputable def woF (xs : List SV) (acc : List SV) : List SV := xs.foldl (fun a x => insR (zR x) a) acc
def woOk (xs acc : List SV) (m : Nat) (i : Int) : Prop := m = acc.length ∧ 0 ≤ i ∧ xs.length ≤ 100000 ∧ acc.length + (xs.length - i.toNat) ≤ 100000 ∧ okL acc ∧ ∀ x ∈ xs, rtOk x
noncomputable def wo_s : CSumm := fun args H => match args, H with
 | [.int .i64 i, .psl 48 xs, .qs 0 38 0 m], [(0, .seq 48 acc)] => .ite (dec (woOk xs acc m i)) (.ret (.tup [.int .i64 2, .qs 1 38 0 (woF (xs.drop i.toNat) acc).length]) [(0, none), (1, some (.seq 48 (woF (xs.drop i.toNat) acc)))]) .fail
 | _, _ => .fail
def woM : List SV → HpL → Nat
 | [.int _ i, .psl _ xs, _], _ => xs.length - i.toNat
 | _, _ => 0
noncomputable def c8b : Code := (loopAt 3 body8).getD .skip
noncomputable def e8b : LEnt := { ins := [4, 0, 3], outs := [3], keep := [2], size := 69, code := c8b, s := wo_s }
noncomputable abbrev T8 : LTab := ltab [("w", e8a)]
noncomputable abbrev m8b : Code := markC [(8, "w")] c8b
noncomputable abbrev κ8b := tbl [(9, cmp_s), (10, ownr_s)]
theorem ok8b : KOk Try.prog κ8b := tbl_cons c9_k (tbl_cons ownr_k ok0)
noncomputable def woT (N m : Nat) (xs acc : List SV) (i : Int) : CTree :=
 gd (Nat.blt (xs.length - i.toNat) N) (gd (dec (woOk xs acc m i)) (.ret (.tup [.int .i64 2, .qs 1 38 0 (woF (xs.drop i.toNat) acc).length]) [(0, none), (1, some (.seq 48 (woF (xs.drop i.toNat) acc)))]))
noncomputable def woT' (N m : Nat) (xs acc : List SV) (i : Int) : CTree :=
 gd (Nat.blt (xs.length - i.toNat) N) (gd (dec (woOk xs acc m i)) (.ret (.tup [.int .i64 2, .qs 1 38 0 (woF (xs.drop i.toNat) acc).length]) [(1, some (.seq 48 (woF (xs.drop i.toNat) acc)))]))
noncomputable def el (l m : Nat) (es : List SV) (k : List SV → CTree) : CTree := bif decide (l = 0) && decide (m = es.length) then k es else gd (decide (l + m ≤ es.length)) (k ((es.drop l).take m))
noncomputable def grB (n : Nat) (K : CTree) : CTree := gd (decide (n ≤ 9223372036854775807) && decide (n * Try.prog.types[48].bytes ≤ 140737488355328)) K
noncomputable def woI (K2 : Nat → List SV → CTree) (m : Nat) (acc : List SV) (z : Rt) (p : Nat) : CTree :=
 gd (decide ((0 : Int) ≤ 0) && decide ((0 : Int) ≤ (p : Int)) && decide ((p : Int) ≤ (m : Int))) (el (0 + (0 : Int).toNat) ((p : Int).toNat - (0 : Int).toNat) acc fun a1 =>
  grB (0 + a1.length) (gd (decide (0 + a1.length = a1.length)) (grB (a1.length + 1)
   (gd (decide ((0 : Int) ≤ (p : Int)) && decide ((p : Int) ≤ (m : Int)) && decide ((m : Int) ≤ (m : Int))) (gd (decide (a1.length + 1 = (a1 ++ [SV.agg z.cs]).length)) (el (0 + (p : Int).toNat) ((m : Int).toNat - (p : Int).toNat) acc fun a2 =>
    grB ((a1 ++ [SV.agg z.cs]).length + a2.length) (K2 ((a1 ++ [SV.agg z.cs]).length + a2.length) (a1 ++ [SV.agg z.cs] ++ a2))))))))
noncomputable def woR (K1 K2 : Nat → List SV → CTree) (m : Nat) (acc : List SV) (z : Rt) (p : Nat) : CTree :=
 bif decide ((p : Int) < m) then gd (inB p m) (gd (decide (0 + (p : Int).toNat < acc.length)) (cmG (rE (acc.getD (0 + (p : Int).toNat) .junk)).n.cs z.n.cs
  (bif cmpN (rE (acc.getD (0 + (p : Int).toNat) .junk)).n.cs z.n.cs == 0 then gd (inB p m) (gd (decide (0 + (p : Int).toNat < acc.length)) (K1 m (setN acc (0 + (p : Int).toNat) (.agg z.cs)))) else woI K2 m acc z p)))
 else woI K2 m acc z p
noncomputable def woZ (K1 K2 : Nat → List SV → CTree) (m : Nat) (acc : List SV) (r : Rt) : CTree :=
 gd (dec (r.cs = (rOf r.cs).cs ∧ aSz (rOf r.cs).d)) (gd (dec ((zRt r).cs = (rOf (zRt r).cs).cs ∧ wiOk acc (rOf (zRt r).cs) m 0)) (woR K1 K2 m acc (zRt r) ((0 : Int).toNat + posL (.agg (zRt r).cs) (acc.drop (0 : Int).toNat))))
theorem wo_t (N m : Nat) (xs acc : List SV) (i : Int) : loopOnce Try.prog κ8b (fun _ => false) T8 true 300 e8b { e8b with s := boundT woM wo_s N } m8b [.int .i64 i, .psl 48 xs, .qs 0 38 0 m] [(0, .seq 48 acc)] =
 bif decide (i < xs.length) then gd (inB i xs.length) (woZ (fun m a => woT N m xs a (w64 (i + 1))) (fun m a => woT' N m xs a (w64 (i + 1))) m acc (rE (xs.getD i.toNat .junk))) else .ret (.tup [.int .i64 2, .qs 0 38 0 m]) [] := by kernel_rfl
/- The same, over a list that has grown. -/
noncomputable def wq_s : CSumm := fun args H => match args, H with
 | [.int .i64 i, .qs 0 38 0 n, .qs 1 38 0 m], [(0, .seq 48 xs), (1, .seq 48 acc)] => .ite (dec (n = xs.length ∧ woOk xs acc m i)) (.ret (.tup [.int .i64 2, .qs 2 38 0 (woF (xs.drop i.toNat) acc).length]) [(1, none), (2, some (.seq 48 (woF (xs.drop i.toNat) acc)))]) .fail
 | _, _ => .fail
def wqM : List SV → HpL → Nat
 | [.int _ i, .qs _ _ _ n, _], _ => n - i.toNat
 | _, _ => 0
noncomputable def e8c : LEnt := { ins := [4, 0, 3], outs := [3], keep := [2], size := 69, code := c8b, s := wq_s }
noncomputable def wqT (N n m : Nat) (xs acc : List SV) (i : Int) : CTree :=
 gd (Nat.blt (n - i.toNat) N) (gd (dec (n = xs.length ∧ woOk xs acc m i)) (.ret (.tup [.int .i64 2, .qs 2 38 0 (woF (xs.drop i.toNat) acc).length]) [(1, none), (2, some (.seq 48 (woF (xs.drop i.toNat) acc)))]))
noncomputable def wqT' (N n m : Nat) (xs acc : List SV) (i : Int) : CTree :=
 gd (Nat.blt (n - i.toNat) N) (gd (dec (n = xs.length ∧ woOk xs acc m i)) (.ret (.tup [.int .i64 2, .qs 2 38 0 (woF (xs.drop i.toNat) acc).length]) [(2, some (.seq 48 (woF (xs.drop i.toNat) acc)))]))
theorem wq_t (N n m : Nat) (xs acc : List SV) (i : Int) : loopOnce Try.prog κ8b (fun _ => false) T8 true 300 e8c { e8c with s := boundT wqM wq_s N } m8b [.int .i64 i, .qs 0 38 0 n, .qs 1 38 0 m] [(0, .seq 48 xs), (1, .seq 48 acc)] =
 bif decide (i < n) then gd (inB i n) (gd (decide (0 + i.toNat < xs.length)) (woZ (fun m a => wqT N n m xs a (w64 (i + 1))) (fun m a => wqT' N n m xs a (w64 (i + 1))) m acc (rE (xs.getD (0 + i.toNat) .junk)))) else .ret (.tup [.int .i64 2, .qs 1 38 0 m]) [] := by kernel_rfl
end Go.Proofs.Ytkbbiaobohlogaa
/- What is advertised: the last of each key, in order. -/
namespace Go.Proofs.Ytkbbiaobohlogaa
open Go.Am
set_option maxRecDepth 100000
theorem el_run {l m : Nat} {es : List SV} (h : l + m ≤ es.length) (k : List SV → CTree) : crun (el l m es k) = crun (k ((es.drop l).take m)) := by
 unfold el
 cases h1 : decide (l = 0) && decide (m = es.length) with
 | true =>
  rw [Bool.and_eq_true] at h1
  have a := of_decide_eq_true h1.1
  have b := of_decide_eq_true h1.2
  subst a; subst b
  simp
 | false => rw [cond_false, crun_gd (decide_eq_true h)]
theorem grB_run {n : Nat} (h : n ≤ 200000) (K : CTree) : crun (grB n K) = crun K := by
 have hb2 : n * Try.prog.types[48].bytes ≤ n * 1000 := Nat.mul_le_mul_left _ bytes48
 unfold grB
 rw [crun_gd (by
  rw [Bool.and_eq_true]
  exact ⟨decide_eq_true (by omega), decide_eq_true (by omega)⟩)]
theorem woI_run (K2 : Nat → List SV → CTree) {m : Nat} {acc : List SV} (z : Rt) {p : Nat} (hm : m = acc.length) (hp : p ≤ m) (hl : acc.length ≤ 100000) :
  crun (woI K2 m acc z p) = crun (K2 (acc.take p ++ [SV.agg z.cs] ++ acc.drop p).length (acc.take p ++ [SV.agg z.cs] ++ acc.drop p)) := by
 unfold woI
 have e1 : (acc.drop (0 + (0 : Int).toNat)).take ((p : Int).toNat - (0 : Int).toNat) = acc.take p := by simp
 have e2 : (acc.drop (0 + (p : Int).toNat)).take ((m : Int).toNat - (p : Int).toNat) = acc.drop p := by
  rw [List.take_of_length_le (by simp; omega)]; simp
 rw [crun_gd (by simp; omega), el_run (by simp; omega), e1]
 have l1 : (acc.take p).length = p := by simp; omega
 rw [grB_run (by omega), crun_gd (by simp), grB_run (by omega), crun_gd (by simp; omega), crun_gd (by simp), el_run (by simp; omega), e2, grB_run (by simp; omega)]
 rw [List.length_append (bs := acc.drop p)]
theorem insR_mem {r x : SV} {acc : List SV} (h : x ∈ insR r acc) : x = r ∨ x ∈ acc := by
 unfold insR at h
 cases hd : decide (posL r acc < acc.length) && (cR (acc.getD (posL r acc) .junk) r == 0) with
 | true =>
  rw [hd, cond_true, setN_eq] at h
  rcases List.mem_or_eq_of_mem_set h with h | h
  · exact .inr h
  · exact .inl h
 | false =>
  rw [hd, cond_false] at h
  simp only [List.mem_append, List.mem_singleton] at h
  rcases h with (h | h) | h
  · exact .inr (List.mem_of_mem_take h)
  · exact .inl h
  · exact .inr (List.mem_of_mem_drop h)
theorem insR_len (r : SV) (acc : List SV) : (insR r acc).length ≤ acc.length + 1 := by
 unfold insR
 have := posL_le r acc
 cases hd : decide (posL r acc < acc.length) && (cR (acc.getD (posL r acc) .junk) r == 0) with
 | true => rw [cond_true, setN_eq]; simp
 | false => simp only [cond_false, List.length_append, List.length_take, List.length_drop, List.length_singleton]; omega
theorem zR_ok {x : SV} (h : okE x) : okE (zR x) := ⟨rfl, okN_of (n := (rE x).n) rfl h.2.1, h.2.2⟩
theorem woZ_run (K1 K2 : Nat → List SV → CTree) {m : Nat} {acc : List SV} {x : SV} (hm : m = acc.length) (hl : acc.length ≤ 100000) (ha : okL acc) (hx : rtOk x) :
  crun (woZ K1 K2 m acc (rE x)) = crun (K1 (insR (zR x) acc).length (insR (zR x) acc)) ∨ crun (woZ K1 K2 m acc (rE x)) = crun (K2 (insR (zR x) acc).length (insR (zR x) acc)) := by
 have hN : okN (rOf (zRt (rE x)).cs).n := okN_of (n := (rE x).n) rfl hx.1.2.1
 have hple := posL_le (zR x) acc
 have key : crun (woZ K1 K2 m acc (rE x)) = crun (woR K1 K2 m acc (zRt (rE x)) (posL (zR x) acc)) := by
  unfold woZ
  rw [crun_gd (dec_iff.2 ⟨rE_fix x, hx.2⟩), crun_gd (dec_iff.2 ⟨(rOf_cs _).symm, hm, Int.le_refl _, hl, ha, hN⟩)]
  show crun (woR K1 K2 m acc (zRt (rE x)) (0 + posL (zR x) acc)) = _
  rw [Nat.zero_add]
 rw [key]
 unfold woR insR
 generalize hp : posL (zR x) acc = p at *
 have hin : crun (woI K2 m acc (zRt (rE x)) p) = crun (K2 (acc.take p ++ [zR x] ++ acc.drop p).length (acc.take p ++ [zR x] ++ acc.drop p)) := woI_run K2 (zRt (rE x)) hm (by omega) hl
 by_cases hi : p < acc.length
 · have e0 : 0 + (p : Int).toNat = p := by simp
   rw [e0, decide_eq_true (show (p : Int) < (m : Int) by omega), cond_true, crun_gd (show inB p m = true by unfold inB; simp; omega), crun_gd (decide_eq_true hi)]
   have hap := okL_at ha hi
   rw [cmG_run hap.2.1 (show okN (zRt (rE x)).n from hx.1.2.1), cmpN_R, decide_eq_true hi, Bool.true_and]
   show crun (bif cR (acc.getD p .junk) (zR x) == 0 then _ else _) = _ ∨ crun (bif cR (acc.getD p .junk) (zR x) == 0 then _ else _) = _
   cases hz : cR (acc.getD p .junk) (zR x) == 0 with
   | true =>
    left
    rw [cond_true, cond_true, crun_gd (show inB p m = true by unfold inB; simp; omega), crun_gd rfl]
    rw [show (setN acc p (zR x)).length = m by rw [setN_eq]; simp [hm]]
    rfl
   | false => right; rw [cond_false, cond_false]; exact hin
 · right
   rw [decide_eq_false (show ¬ (p : Int) < (m : Int) by omega), cond_false, decide_eq_false hi, Bool.false_and, cond_false]
   exact hin
theorem drop_foldl {β : Type} (f : β → SV → β) {xs : List SV} {i : Nat} (h : i < xs.length) (b : β) : (xs.drop i).foldl f b = (xs.drop (i + 1)).foldl f (f b (xs.getD i .junk)) := drop_fold f h b
theorem woOk_next {xs acc : List SV} {m : Nat} {i : Int} (h : woOk xs acc m i) (hi : i.toNat < xs.length) : woOk xs (insR (zR (xs.getD i.toNat .junk)) acc) (insR (zR (xs.getD i.toNat .junk)) acc).length (i + 1) := by
 obtain ⟨h1, h2, h3, h4, h5, h6⟩ := h
 have := insR_len (zR (xs.getD i.toNat .junk)) acc
 refine ⟨rfl, by omega, h3, by omega, fun x hx => ?_, h6⟩
 rcases insR_mem hx with rfl | hx
 · exact zR_ok (h6 _ (getD_mem hi)).1
 · exact h5 x hx
theorem wo_valid : ValidL Try.prog e8b := loop_valid5 (T := T8) (sp := true) (fuel := 300) (c := m8b) (μ := woM) mixTry (ltab_cons wi_valid ltab_nil) (show fillC T8 m8b = c8b by kernel_rfl) (by
 intro N args H v' ups' hb h
 refine ⟨κ8b, fun _ => false, ok8b, ?_⟩
 unfold e8b wo_s at h
 simp only [] at h
 split at h
 · rename_i i xs m acc
   rw [crun_ite] at h
   cases hc : dec _ with
   | false => rw [hc] at h; cases h
   | true =>
    rw [hc, cond_true] at h
    have hok := dec_iff.1 hc
    obtain ⟨h1, h2, h3, h4, h5, h6⟩ := id hok
    have ht := congrArg crun (wo_t N m xs acc i)
    have hN : Nat.blt (xs.length - i.toNat) (N + 1) = true := hb
    rw [Nat.blt_eq] at hN
    by_cases hi : i < xs.length
    · have la : i.toNat < xs.length := by omega
      have hn := woOk_next hok la
      rw [show w64 (i + 1) = i + 1 from w64_id (by omega) (by omega), decide_eq_true hi, cond_true, crun_gd (show inB i xs.length = true by unfold inB; simp; omega)] at ht
      have hf : woF (xs.drop i.toNat) acc = woF (xs.drop (i + 1).toNat) (insR (zR (xs.getD i.toNat .junk)) acc) := by
       rw [show (i + 1).toNat = i.toNat + 1 by omega]; exact drop_foldl _ la _
      rw [hf] at h
      rcases woZ_run (fun m a => woT N m xs a (i + 1)) (fun m a => woT' N m xs a (i + 1)) h1 (by omega) h5 (h6 _ (getD_mem la)) with hz | hz
      · rw [hz] at ht
        unfold woT at ht
        rw [crun_gd (by rw [Nat.blt_eq]; omega), crun_gd (dec_iff.2 hn)] at ht
        exact ⟨_, _, ht.trans h, .same fun _ => rfl⟩
      · rw [hz] at ht
        unfold woT' at ht
        rw [crun_gd (by rw [Nat.blt_eq]; omega), crun_gd (dec_iff.2 hn)] at ht
        cases h
        refine ⟨_, _, ht, told_at fun x c' hx => ?_⟩
        simp only [updF] at hx ⊢
        by_cases hx1 : x = 1
        · rw [if_pos hx1] at hx ⊢; exact ⟨c', hx, fun _ _ _ _ h => h⟩
        · rw [if_neg hx1] at hx ⊢
          by_cases hx0 : x = 0
          · rw [if_pos hx0] at hx; cases hx
          · rw [if_neg hx0] at hx; exact ⟨c', hx, fun _ _ _ _ h => h⟩
    · rw [decide_eq_false hi, cond_false] at ht
      rw [List.drop_eq_nil_of_le (by omega)] at h
      have : woF [] acc = acc := rfl
      rw [this, ← h1] at h
      cases h
      refine ⟨_, _, ht, .ren ⟨0, 1, Nat.le_refl _, by simp [namesS, namesL], fun x c hx => ?_, rfl, fun x => ?_⟩⟩
      · simp only [updF] at hx
        have := HpL_get_some _ _ _ hx
        simp only [List.mem_cons, Prod.mk.injEq, List.not_mem_nil, or_false] at this
        obtain ⟨-, rfl⟩ := this
        simp [namesC]
      · match x with
        | 0 => rfl
        | 1 => rfl
        | x + 2 => rfl
 · cases h)
theorem wq_valid : ValidL Try.prog e8c := loop_valid5 (T := T8) (sp := true) (fuel := 300) (c := m8b) (μ := wqM) mixTry (ltab_cons wi_valid ltab_nil) (show fillC T8 m8b = c8b by kernel_rfl) (by
 intro N args H v' ups' hb h
 refine ⟨κ8b, fun _ => false, ok8b, ?_⟩
 unfold e8c wq_s at h
 simp only [] at h
 split at h
 · rename_i i n m xs acc
   rw [crun_ite] at h
   cases hc : dec _ with
   | false => rw [hc] at h; cases h
   | true =>
    rw [hc, cond_true] at h
    obtain ⟨hnx, hok⟩ := dec_iff.1 hc
    obtain ⟨h1, h2, h3, h4, h5, h6⟩ := id hok
    have ht := congrArg crun (wq_t N n m xs acc i)
    have hN : Nat.blt (n - i.toNat) (N + 1) = true := hb
    rw [Nat.blt_eq] at hN
    by_cases hi : i < n
    · have la : i.toNat < xs.length := by omega
      have hn := woOk_next hok la
      rw [Nat.zero_add, show w64 (i + 1) = i + 1 from w64_id (by omega) (by omega), decide_eq_true hi, cond_true, crun_gd (show inB i n = true by unfold inB; simp; omega), crun_gd (decide_eq_true la)] at ht
      have hf : woF (xs.drop i.toNat) acc = woF (xs.drop (i + 1).toNat) (insR (zR (xs.getD i.toNat .junk)) acc) := by
       rw [show (i + 1).toNat = i.toNat + 1 by omega]; exact drop_foldl _ la _
      rw [hf] at h
      rcases woZ_run (fun m a => wqT N n m xs a (i + 1)) (fun m a => wqT' N n m xs a (i + 1)) h1 (by omega) h5 (h6 _ (getD_mem la)) with hz | hz
      · rw [hz] at ht
        unfold wqT at ht
        rw [crun_gd (by rw [Nat.blt_eq]; omega), crun_gd (dec_iff.2 ⟨hnx, hn⟩)] at ht
        exact ⟨_, _, ht.trans h, .same fun _ => rfl⟩
      · rw [hz] at ht
        unfold wqT' at ht
        rw [crun_gd (by rw [Nat.blt_eq]; omega), crun_gd (dec_iff.2 ⟨hnx, hn⟩)] at ht
        cases h
        refine ⟨_, _, ht, told_at fun x c' hx => ?_⟩
        simp only [updF] at hx ⊢
        by_cases hx1 : x = 2
        · rw [if_pos hx1] at hx ⊢; exact ⟨c', hx, fun _ _ _ _ h => h⟩
        · rw [if_neg hx1] at hx ⊢
          by_cases hx0 : x = 1
          · rw [if_pos hx0] at hx; cases hx
          · rw [if_neg hx0] at hx; exact ⟨c', hx, fun _ _ _ _ h => h⟩
    · rw [decide_eq_false hi, cond_false] at ht
      rw [List.drop_eq_nil_of_le (by omega)] at h
      have : woF [] acc = acc := rfl
      rw [this, ← h1] at h
      cases h
      refine ⟨_, _, ht, .ren ⟨1, 2, Nat.le_refl _, by simp [namesS, namesL], fun x c hx => ?_, rfl, fun x => ?_⟩⟩
      · simp only [updF] at hx
        have := HpL_get_some _ _ _ hx
        simp only [List.mem_cons, Prod.mk.injEq, List.not_mem_nil, or_false] at this
        rcases this with ⟨-, rfl⟩ | ⟨-, rfl⟩ <;> simp [namesC]
      · match x with
        | 0 => rfl
        | 1 => rfl
        | 2 => rfl
        | x + 3 => rfl
 · cases h)
abbrev fs8 : List (Option (Nat × Nat)) := [none, none, some (48, 38)]
noncomputable def e8bj : LEnt := { e8b with s := inN fs8 wo_s }
noncomputable def e8cj : LEnt := { e8c with s := inN fs8 wq_s }
theorem wo_in : ValidL Try.prog e8bj := loop_inN wo_valid (fs := fs8)
theorem wq_in : ValidL Try.prog e8cj := loop_inN wq_valid (fs := fs8)
noncomputable abbrev m8 : Code := markC [(3, "o")] body8
noncomputable def wo_b : CSumm := bodyCL Try.prog (tbl []) (fun _ => false) (ltab [("o", e8bj)]) true 300 Try.f8 m8
noncomputable def wq_b : CSumm := bodyCL Try.prog (tbl []) (fun _ => false) (ltab [("o", e8cj)]) true 300 Try.f8 m8
theorem wo_bt (xs : List SV) : wo_b [.psl 48 xs] [] = gd (dec (woOk xs [] 0 0)) (.ret (.qs 0 38 0 (woF (xs.drop (0 : Int).toNat) []).length) [(0, some (.seq 48 (woF (xs.drop (0 : Int).toNat) [])))]) := by kernel_rfl
theorem wq_bt (n : Nat) (xs : List SV) : wq_b [.qs 0 38 0 n] [(0, .seq 48 xs)] = gd (dec (n = xs.length ∧ woOk xs [] 0 0)) (.ret (.qs 1 38 0 (woF (xs.drop (0 : Int).toNat) []).length) [(1, some (.seq 48 (woF (xs.drop (0 : Int).toNat) [])))]) := by kernel_rfl
theorem wo_k0 : Known Try.prog 8 wo_b := ⟨⟨Try.f8, Try.func8, noNum_at noNumTry Try.func8, rfl⟩, bodyL_valid ok0 mixTry (ltab_cons wo_in ltab_nil) Try.func8 (show Try.f8.body = some (fillC (ltab [("o", e8bj)]) m8) by kernel_rfl)⟩
theorem wq_k0 : Known Try.prog 8 wq_b := ⟨⟨Try.f8, Try.func8, noNum_at noNumTry Try.func8, rfl⟩, bodyL_valid ok0 mixTry (ltab_cons wq_in ltab_nil) Try.func8 (show Try.f8.body = some (fillC (ltab [("o", e8cj)]) m8) by kernel_rfl)⟩
noncomputable def wol (xs : List SV) : List SV := woF xs []
theorem woOk_0 {xs : List SV} (h : rsOk xs) : woOk xs [] 0 0 := ⟨rfl, Int.le_refl _, h.1, by simpa using h.1, fun x hx => (by cases hx), h.2⟩
noncomputable def w8a_s : CSumm := fun args H => match args, H with
 | [.psl 48 xs], [] => .ite (dec (rsOk xs)) (.ret (.qs 0 38 0 (wol xs).length) [(0, some (.seq 48 (wol xs)))]) .fail
 | _, _ => .fail
theorem w8a_k : Known Try.prog 8 w8a_s := wo_k0.weak (by
 intro args H v ups h
 unfold w8a_s at h
 split at h
 · rename_i xs
   rw [crun_ite] at h
   cases hc : dec _ with
   | false => rw [hc] at h; cases h
   | true =>
    rw [hc, cond_true] at h
    refine (congrArg crun (wo_bt xs)).trans ?_
    rw [crun_gd (dec_iff.2 (woOk_0 (dec_iff.1 hc)))]
    exact h
 · cases h)
noncomputable def w8b_s : CSumm := fun args H => match args, H with
 | [.qs 0 38 0 n], [(0, .seq 48 xs)] => .ite (dec (n = xs.length ∧ rsOk xs)) (.ret (.qs 1 38 0 (wol xs).length) [(1, some (.seq 48 (wol xs)))]) .fail
 | _, _ => .fail
theorem w8b_k : Known Try.prog 8 w8b_s := wq_k0.weak (by
 intro args H v ups h
 unfold w8b_s at h
 split at h
 · rename_i n xs
   rw [crun_ite] at h
   cases hc : dec _ with
   | false => rw [hc] at h; cases h
   | true =>
    rw [hc, cond_true] at h
    obtain ⟨h1, h2⟩ := dec_iff.1 hc
    refine (congrArg crun (wq_bt n xs)).trans ?_
    rw [crun_gd (dec_iff.2 ⟨h1, woOk_0 h2⟩)]
    exact h
 · cases h)
def isPsl : List SV → Bool
 | [.psl _ _] => true
 | _ => false
noncomputable def w8_s : CSumm := fun args H => bif isPsl args then w8a_s args H else w8b_s args H
theorem w8_k : Known Try.prog 8 w8_s := known_pick2 w8a_k w8b_k fun args _ => isPsl args
end Go.Proofs.Ytkbbiaobohlogaa
/- What is advertised: is a key among those gone. -/
namespace Go.Proofs.Ytkbbiaobohlogaa
open Go.Am
set_option maxRecDepth 100000
noncomputable def hitL (gs : List SV) (b : SV) : Bool := gs.any fun g => cmpN (nE g).cs (rE b).n.cs == 0
def hiOk (gs bs : List SV) (n m : Nat) (j i : Int) : Prop := n = gs.length ∧ m = bs.length ∧ 0 ≤ j ∧ 0 ≤ i ∧ i.toNat < bs.length ∧ gs.length ≤ 100000 ∧ (∀ g ∈ gs, KyOk g) ∧ okL bs
noncomputable def hi_s : CSumm := fun args H => match args, H with
 | [.int .i64 j, .qs 0 21 0 n, .bool h, .qs 1 38 0 m, .int .i64 i], [(0, .seq 39 gs), (1, .seq 48 bs)] =>
  .ite (dec (hiOk gs bs n m j i)) (.ret (.tup [.int .i64 4, .bool (h || hitL (gs.drop j.toNat) (bs.getD i.toNat .junk)), .qs 0 21 0 n, .qs 1 38 0 m, .int .i64 i]) []) .fail
 | _, _ => .fail
def hiM : List SV → HpL → Nat
 | [.int _ j, .qs _ _ _ n, _, _, _], _ => n - j.toNat
 | _, _ => 0
noncomputable def body3 : Code := Try.f3.body.getD .skip
noncomputable def c3a : Code := (loopAt 13 body3).getD .skip
noncomputable def e3a : LEnt := { ins := [11, 5, 10, 7, 9], outs := [10, 5, 7, 9], keep := [0, 1, 4, 6, 8], size := 141, code := c3a, s := hi_s }
noncomputable def hiX (h : Bool) (n m : Nat) (i : Int) : CTree := .ret (.tup [.int .i64 4, .bool h, .qs 0 21 0 n, .qs 1 38 0 m, .int .i64 i]) []
noncomputable def hiT (N n m : Nat) (gs bs : List SV) (h : Bool) (j i : Int) : CTree :=
 gd (Nat.blt (n - j.toNat) N) (gd (dec (hiOk gs bs n m j i)) (hiX (h || hitL (gs.drop j.toNat) (bs.getD i.toNat .junk)) n m i))
theorem hi_t (N n m : Nat) (gs bs : List SV) (h : Bool) (j i : Int) : loopOnce Try.prog κ8a (fun _ => false) (ltab []) true 300 e3a { e3a with s := boundT hiM hi_s N } c3a [.int .i64 j, .qs 0 21 0 n, .bool h, .qs 1 38 0 m, .int .i64 i] [(0, .seq 39 gs), (1, .seq 48 bs)] =
 bif decide (j < n) then (bif h then hiT N n m gs bs true (w64 (j + 1)) i else gd (inB j n) (gd (decide (0 + j.toNat < gs.length)) (gd (inB i m) (gd (decide (0 + i.toNat < bs.length)) (cmG (nE (gs.getD (0 + j.toNat) .junk)).cs (rE (bs.getD (0 + i.toNat) .junk)).n.cs
  (hiT N n m gs bs (cmpN (nE (gs.getD (0 + j.toNat) .junk)).cs (rE (bs.getD (0 + i.toNat) .junk)).n.cs == 0) (w64 (j + 1)) i))))))
 else hiX h n m i := by kernel_rfl
end Go.Proofs.Ytkbbiaobohlogaa
/- What is advertised: what is kept. -/
namespace Go.Proofs.Ytkbbiaobohlogaa
open Go.Am
set_option maxRecDepth 100000
theorem hit_drop {gs : List SV} (b : SV) {j : Nat} (h : j < gs.length) : hitL (gs.drop j) b = ((cmpN (nE (gs.getD j .junk)).cs (rE b).n.cs == 0) || hitL (gs.drop (j + 1)) b) := by
 unfold hitL
 rw [List.drop_eq_getElem_cons h, List.any_cons]
 have e1 : gs.getD j .junk = gs[j] := by simp [List.getD_eq_getElem?_getD, h]
 rw [e1]
theorem hi_valid : ValidL Try.prog e3a := loop_valid (κ := κ8a) (ι := fun _ => false) (T := ltab []) (sp := true) (fuel := 300) (c := c3a) (μ := hiM) ok8a mixTry ltab_nil (show fillC (ltab []) c3a = c3a by kernel_rfl) (by
 intro N args H r hb h
 unfold e3a hi_s at h
 simp only [] at h
 split at h
 · rename_i j n hh m i gs bs
   rw [crun_ite] at h
   cases hc : dec _ with
   | false => rw [hc] at h; cases h
   | true =>
    rw [hc, cond_true] at h
    have hok := dec_iff.1 hc
    obtain ⟨k1, k2, k3, k4, k5, k6, k7, k8⟩ := id hok
    refine (congrArg crun (hi_t N n m gs bs hh j i)).trans ?_
    have hN : Nat.blt (n - j.toNat) (N + 1) = true := hb
    rw [Nat.blt_eq] at hN
    by_cases hj : j < n
    · have la : j.toNat < gs.length := by omega
      have hnext : hiOk gs bs n m (j + 1) i := ⟨k1, k2, by omega, k4, k5, k6, k7, k8⟩
      have hT : ∀ h', crun (hiT N n m gs bs h' (j + 1) i) = crun (hiX (h' || hitL (gs.drop (j.toNat + 1)) (bs.getD i.toNat .junk)) n m i) := by
       intro h'
       unfold hiT
       rw [crun_gd (by rw [Nat.blt_eq]; omega), crun_gd (dec_iff.2 hnext), show (j + 1).toNat = j.toNat + 1 by omega]
      rw [decide_eq_true hj, cond_true, show w64 (j + 1) = j + 1 from w64_id (by omega) (by omega), Nat.zero_add, Nat.zero_add]
      rw [hit_drop _ la] at h
      cases hh with
      | true => rw [cond_true, hT]; exact h
      | false =>
       have hg := k7 _ (getD_mem (a := gs) la)
       have hbk := okL_at k8 k5
       rw [cond_false, crun_gd (show inB j n = true by unfold inB; simp; omega), crun_gd (decide_eq_true la), crun_gd (show inB i m = true by unfold inB; simp; omega), crun_gd (decide_eq_true k5), cmG_run hg.2.1 hbk.2.1, hT]
       exact h
    · rw [decide_eq_false hj, cond_false]
      rw [List.drop_eq_nil_of_le (by omega), show hitL [] (bs.getD i.toNat .junk) = false from rfl, Bool.or_false] at h
      exact h
 · cases h)
noncomputable def keepL (gs bs : List SV) : List SV := bs.filter fun b => !hitL gs b
def kiOk (bs gs ks : List SV) (m n k : Nat) (i : Int) : Prop := m = bs.length ∧ n = gs.length ∧ k = ks.length ∧ 0 ≤ i ∧ gs.length ≤ 100000 ∧ bs.length ≤ 100000 ∧ ks.length + (bs.length - i.toNat) ≤ 100000 ∧ (∀ g ∈ gs, KyOk g) ∧ okL bs
noncomputable def ki_s : CSumm := fun args H => match args, H with
 | [.int .i64 i, .qs 0 38 0 m, .qs 1 21 0 n, .qs 2 38 0 k], [(0, .seq 48 bs), (1, .seq 39 gs), (2, .seq 48 ks)] =>
  .ite (dec (kiOk bs gs ks m n k i)) (.ret (.tup [.int .i64 2, .qs 3 38 0 (ks ++ keepL gs (bs.drop i.toNat)).length, .qs 0 38 0 m, .qs 1 21 0 n]) [(2, none), (3, some (.seq 48 (ks ++ keepL gs (bs.drop i.toNat))))]) .fail
 | _, _ => .fail
def kiM : List SV → HpL → Nat
 | [.int _ i, .qs _ _ _ m, _, _], _ => m - i.toNat
 | _, _ => 0
noncomputable def c3b : Code := (loopAt 9 body3).getD .skip
noncomputable def e3b : LEnt := { ins := [9, 7, 5, 8], outs := [8, 7, 5], keep := [0, 1, 4, 6], size := 141, code := c3b, s := ki_s }
noncomputable abbrev T3b : LTab := ltab [("h", e3a)]
noncomputable abbrev m3b : Code := markC [(13, "h")] c3b
noncomputable def kiT (N m n k : Nat) (bs gs ks : List SV) (i : Int) : CTree :=
 gd (Nat.blt (m - i.toNat) N) (gd (dec (kiOk bs gs ks m n k i)) (.ret (.tup [.int .i64 2, .qs 3 38 0 (ks ++ keepL gs (bs.drop i.toNat)).length, .qs 0 38 0 m, .qs 1 21 0 n]) [(2, none), (3, some (.seq 48 (ks ++ keepL gs (bs.drop i.toNat))))]))
theorem ki_t (N m n k : Nat) (bs gs ks : List SV) (i : Int) : loopOnce Try.prog (tbl []) (fun _ => false) T3b true 300 e3b { e3b with s := boundT kiM ki_s N } m3b [.int .i64 i, .qs 0 38 0 m, .qs 1 21 0 n, .qs 2 38 0 k] [(0, .seq 48 bs), (1, .seq 39 gs), (2, .seq 48 ks)] =
 bif decide (i < m) then gd (dec (hiOk gs bs n m 0 i)) (bif !(false || hitL (gs.drop (0 : Int).toNat) (bs.getD i.toNat .junk)) then gd (inB i m) (gd (decide (0 + i.toNat < bs.length)) (gr48 k ks (kiT N m n (ks.length + 1) bs gs (ks ++ [.agg (rE (bs.getD (0 + i.toNat) .junk)).cs]) (w64 (i + 1)))))
  else kiT N m n k bs gs ks (w64 (i + 1)))
 else .ret (.tup [.int .i64 2, .qs 2 38 0 k, .qs 0 38 0 m, .qs 1 21 0 n]) [] := by kernel_rfl
end Go.Proofs.Ytkbbiaobohlogaa
