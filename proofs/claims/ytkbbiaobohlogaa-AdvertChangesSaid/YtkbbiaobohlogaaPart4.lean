/- What is advertised: lists of routes: light ones; the same. -/
import Derived.Test.YtkbbiaobohlogaaPart3
import Derived.Test.YtkbbiaobohlogaaMachine8
set_option linter.unusedVariables false
set_option linter.unusedSimpArgs false
namespace Go.Proofs.Ytkbbiaobohlogaa
open Go.Am
set_option maxRecDepth 100000
def rE (e : SV) : Rt := ⟨fun i => asI (cellAt e i), asB (cellAt e 15), ⟨asI (cellAt e 21), asI (cellAt e 23), asI (cellAt e 25), asI (cellAt e 27), asI (cellAt e 29), asI (cellAt e 32), asI (cellAt e 33), asI (cellAt e 34), asI (cellAt e 35), asB (cellAt e 24), asB (cellAt e 26), asB (cellAt e 28), asL (cellAt e 22), asL (cellAt e 30), asL (cellAt e 31)⟩, asI (cellAt e 36), asB (cellAt e 37)⟩
theorem rE_fix (e : SV) : (rE e).cs = (rOf (rE e).cs).cs := rfl
def okR (r : Rt) : Prop := okN r.n ∧ aNrm r.d
def okE (e : SV) : Prop := e = .agg (rE e).cs ∧ okR (rE e)
def okL (xs : List SV) : Prop := ∀ x ∈ xs, okE x
theorem okL_at {xs : List SV} (h : okL xs) {i : Nat} (hi : i < xs.length) : okE (xs.getD i .junk) := h _ (getD_mem hi)
theorem all_step (p : SV → Bool) {xs : List SV} {i : Nat} (h : i < xs.length) : (xs.drop i).all p = (p (xs.getD i .junk) && (xs.drop (i + 1)).all p) := by
 rw [List.drop_eq_getElem_cons h, List.all_cons]
 have e1 : xs.getD i .junk = xs[i] := by simp [List.getD_eq_getElem?_getD, h]
 rw [e1]
def lgt (r : Rt) : Bool := bif (bif decide ((r.d.path.length : Int) ≤ 40) then decide ((r.d.cl.length : Int) ≤ 20) else false) then decide ((r.d.cm.length : Int) ≤ 80) else false
noncomputable def light_s : CSumm := fun args H => match args, H with
 | [.agg cs], [] => .ite (dec (cs = (rOf cs).cs)) (.ret (.bool (lgt (rOf cs))) []) .fail
 | _, _ => .fail
theorem light_k : Known Try.prog 13 light_s := (openKnown ok0 Try.func13 rfl).weak (by
 intro args H v ups h
 unfold light_s at h
 split at h
 · rename_i cs
   rw [crun_ite] at h
   cases hc : dec (cs = (rOf cs).cs) with
   | false => rw [hc] at h; cases h
   | true =>
    rw [hc, cond_true] at h
    have h1 := dec_iff.1 hc
    generalize rOf cs = r at h1 h
    subst h1
    exact (congrArg crun (light_t r)).trans h
 · cases h)
noncomputable abbrev κ6 := tbl [(13, light_s)]
theorem ok6 : KOk Try.prog κ6 := tbl_cons light_k ok0
noncomputable def body6 : Code := Try.f6.body.getD .skip
noncomputable def c6 : Code := (loopAt 2 body6).getD .skip
def allLg (xs : List SV) (i : Nat) : Bool := (xs.drop i).all fun x => lgt (rE x)
noncomputable def lr_s : CSumm := fun args H => match args, H with
 | [.psl 48 xs, .int .i64 i], [] => .ite (dec (0 ≤ i ∧ xs.length ≤ 9223372036854775807)) (.ite (allLg xs i.toNat) (.ret (.tup [.int .i64 2, .psl 48 xs, .junk]) []) (.ret (.tup [.int .i64 1, .psl 48 xs, .bool false]) [])) .fail
 | _, _ => .fail
def lrM : List SV → HpL → Nat
 | [.psl _ a, .int _ i], _ => a.length - i.toNat
 | _, _ => 0
noncomputable def e6 : LEnt := { ins := [0, 5], outs := [0, 4], keep := [1], size := 22, code := c6, s := lr_s }
theorem lr_t (N : Nat) (xs : List SV) (i : Int) : loopOnce Try.prog κ6 (fun _ => false) (ltab []) true 300 e6 { e6 with s := boundT lrM lr_s N } c6 [.psl 48 xs, .int .i64 i] [] =
 bif decide (i < xs.length) then gd (inB i xs.length) (gd (dec ((rE (xs.getD i.toNat .junk)).cs = (rOf (rE (xs.getD i.toNat .junk)).cs).cs)) (bif !lgt (rOf (rE (xs.getD i.toNat .junk)).cs) then .ret (.tup [.int .i64 1, .psl 48 xs, .bool false]) [] else
  gd (Nat.blt (xs.length - (w64 (i + 1)).toNat) N) (gd (dec (0 ≤ w64 (i + 1) ∧ xs.length ≤ 9223372036854775807)) (bif allLg xs (w64 (i + 1)).toNat then .ret (.tup [.int .i64 2, .psl 48 xs, .junk]) [] else .ret (.tup [.int .i64 1, .psl 48 xs, .bool false]) []))))
 else .ret (.tup [.int .i64 2, .psl 48 xs, .junk]) [] := by kernel_rfl
theorem lr_valid : ValidL Try.prog e6 := loop_valid (κ := κ6) (ι := fun _ => false) (T := ltab []) (sp := true) (fuel := 300) (c := c6) (μ := lrM) ok6 mixTry ltab_nil (show fillC (ltab []) c6 = c6 by kernel_rfl) (by
 intro N args H r hb h
 unfold e6 lr_s at h
 simp only [] at h
 split at h
 · rename_i xs i
   rw [crun_ite] at h
   cases hc : dec _ with
   | false => rw [hc] at h; cases h
   | true =>
    rw [hc, cond_true, crun_ite] at h
    obtain ⟨h1, h2⟩ := dec_iff.1 hc
    refine (congrArg crun (lr_t N xs i)).trans ?_
    have hN : Nat.blt (xs.length - i.toNat) (N + 1) = true := hb
    rw [Nat.blt_eq] at hN
    by_cases hi : i < xs.length
    · have hl : i.toNat < xs.length := by omega
      rw [decide_eq_true hi, cond_true, crun_gd (show inB i xs.length = true by unfold inB; simp; omega), crun_gd (dec_iff.2 (rE_fix _))]
      unfold allLg at h
      rw [all_step _ hl] at h
      show crun (bif !lgt (rE (xs.getD i.toNat .junk)) then _ else _) = _
      cases hg : lgt (rE (xs.getD i.toNat .junk)) with
      | false => rw [hg] at h; exact h
      | true =>
       rw [hg, Bool.true_and] at h
       rw [show w64 (i + 1) = i + 1 from w64_id (by omega) (by omega), show (i + 1).toNat = i.toNat + 1 by omega]
       simp only [Bool.not_true, cond_false]
       rw [crun_gd (by rw [Nat.blt_eq]; omega), crun_gd (dec_iff.2 ⟨by omega, h2⟩), crun_cond]
       exact h
    · rw [decide_eq_false hi, cond_false]
      unfold allLg at h
      rw [List.drop_eq_nil_of_le (by omega)] at h
      exact h
 · cases h)
noncomputable def lrs_s : CSumm := fun args H => match args, H with
 | [.psl 48 xs, .int .i64 m], [] => .ite (dec (xs.length ≤ 9223372036854775807)) (.ret (.bool (allLg xs 0 && decide ((xs.length : Int) ≤ m))) []) .fail
 | _, _ => .fail
theorem lrs_t (xs : List SV) (m : Int) : bodyCL Try.prog κ6 (fun _ => false) (ltab [("s", e6)]) true 300 Try.f6 (markC [(2, "s")] body6) [.psl 48 xs, .int .i64 m] [] =
 gd (dec ((0 : Int) ≤ 0 ∧ xs.length ≤ 9223372036854775807)) (bif allLg xs 0 then .ret (.bool (decide ((xs.length : Int) ≤ m))) [] else .ret (.bool false) []) := by kernel_rfl
theorem lrs_k : Known Try.prog 6 lrs_s := by
 have h0 : Known Try.prog 6 (bodyCL Try.prog κ6 (fun _ => false) (ltab [("s", e6)]) true 300 Try.f6 (markC [(2, "s")] body6)) := ⟨⟨Try.f6, Try.func6, noNum_at noNumTry Try.func6, rfl⟩, bodyL_valid ok6 mixTry (ltab_cons lr_valid ltab_nil) Try.func6 (show Try.f6.body = some (fillC (ltab [("s", e6)]) (markC [(2, "s")] body6)) by kernel_rfl)⟩
 refine h0.weak (fun args H v ups h => ?_)
 unfold lrs_s at h
 split at h
 · rename_i xs m
   rw [crun_ite] at h
   cases hc : dec _ with
   | false => rw [hc] at h; cases h
   | true =>
    rw [hc, cond_true] at h
    refine (congrArg crun (lrs_t xs m)).trans ?_
    rw [crun_gd (dec_iff.2 ⟨by omega, dec_iff.1 hc⟩)]
    cases hg : allLg xs 0 with
    | true => rw [hg] at h; exact h
    | false => rw [hg] at h; exact h
 · cases h
/- The same routes. -/
noncomputable abbrev κ12 := tbl [(11, srt_s)]
theorem ok12 : KOk Try.prog κ12 := tbl_cons srt_k ok0
noncomputable def body12 : Code := Try.f12.body.getD .skip
noncomputable def c12 : Code := (loopAt 4 body12).getD .skip
def sroOk (n m : Nat) (xs ys : List SV) : Prop := n = xs.length ∧ m = ys.length ∧ n = m ∧ n ≤ 100000 ∧ okL xs ∧ okL ys
noncomputable def sro_s : CSumm := fun args H => match args, H with
 | [.qs 0 38 0 n, .qs 1 38 0 m, .int .i64 i], [(0, .seq 48 xs), (1, .seq 48 ys)] => .ite (dec (0 ≤ i ∧ sroOk n m xs ys)) (.ite (dec (xs.drop i.toNat = ys.drop i.toNat)) (.ret (.tup [.int .i64 2, .junk]) []) (.ret (.tup [.int .i64 1, .bool false]) [])) .fail
 | _, _ => .fail
def sroM : List SV → HpL → Nat
 | [.qs _ _ _ n, _, .int _ i], _ => n - i.toNat
 | _, _ => 0
noncomputable def e12 : LEnt := { ins := [0, 1, 5], outs := [4], keep := [], size := 27, code := c12, s := sro_s }
noncomputable def srG (x y : SV) (K : CTree → CTree) : CTree := gd (dec ((rE x).cs = (rOf (rE x).cs).cs ∧ (rE y).cs = (rOf (rE y).cs).cs ∧ aNrm (rOf (rE x).cs).d ∧ aNrm (rOf (rE y).cs).d)) (bif !eqV (rE x).cs (rE y).cs then .ret (.tup [.int .i64 1, .bool false]) [] else K .fail)
theorem sro_t (N n m : Nat) (xs ys : List SV) (i : Int) : loopOnce Try.prog κ12 (fun _ => false) (ltab []) true 300 e12 { e12 with s := boundT sroM sro_s N } c12 [.qs 0 38 0 n, .qs 1 38 0 m, .int .i64 i] [(0, .seq 48 xs), (1, .seq 48 ys)] =
 bif decide (i < n) then gd (inB i n) (gd (decide (0 + i.toNat < xs.length)) (gd (inB i m) (gd (decide (0 + i.toNat < ys.length)) (srG (xs.getD (0 + i.toNat) .junk) (ys.getD (0 + i.toNat) .junk) fun _ =>
  gd (Nat.blt (n - (w64 (i + 1)).toNat) N) (gd (dec (0 ≤ w64 (i + 1) ∧ sroOk n m xs ys)) (bif dec (xs.drop (w64 (i + 1)).toNat = ys.drop (w64 (i + 1)).toNat) then .ret (.tup [.int .i64 2, .junk]) [] else .ret (.tup [.int .i64 1, .bool false]) []))))))
 else .ret (.tup [.int .i64 2, .junk]) [] := by kernel_rfl
theorem sro_valid : ValidL Try.prog e12 := loop_valid (κ := κ12) (ι := fun _ => false) (T := ltab []) (sp := true) (fuel := 300) (c := c12) (μ := sroM) ok12 mixTry ltab_nil (show fillC (ltab []) c12 = c12 by kernel_rfl) (by
 intro N args H r hb h
 unfold e12 sro_s at h
 simp only [] at h
 split at h
 · rename_i n m i xs ys
   rw [crun_ite] at h
   cases hc : dec _ with
   | false => rw [hc] at h; cases h
   | true =>
    rw [hc, cond_true, crun_ite] at h
    obtain ⟨h1, hk⟩ := dec_iff.1 hc
    obtain ⟨k1, k2, k3, k4, k5, k6⟩ := id hk
    refine (congrArg crun (sro_t N n m xs ys i)).trans ?_
    have hN : Nat.blt (n - i.toNat) (N + 1) = true := hb
    rw [Nat.blt_eq] at hN
    by_cases hi : i < n
    · have la : i.toNat < xs.length := by omega
      have lb : i.toNat < ys.length := by omega
      rw [Nat.zero_add, decide_eq_true hi, cond_true, crun_gd (show inB i n = true by unfold inB; simp; omega), crun_gd (decide_eq_true la), crun_gd (show inB i m = true by unfold inB; simp; omega), crun_gd (decide_eq_true lb)]
      have hst := drop_step la lb
      obtain ⟨x1, x2⟩ := okL_at k5 la
      obtain ⟨y1, y2⟩ := okL_at k6 lb
      generalize xs.getD i.toNat .junk = x at *
      generalize ys.getD i.toNat .junk = y at *
      unfold srG
      rw [crun_gd (dec_iff.2 ⟨rE_fix _, rE_fix _, x2.2, y2.2⟩)]
      have hxy : eqV (rE x).cs (rE y).cs = true ↔ x = y := by
       rw [eqV_iff]
       constructor
       · intro e; rw [x1, y1, e]
       · intro e; rw [e]
      cases hn : eqV (rE x).cs (rE y).cs with
      | false =>
       rw [dec_f (fun hd => by rw [hxy.2 (hst.1 hd).1] at hn; cases hn)] at h
       exact h
      | true =>
       rw [show w64 (i + 1) = i + 1 from w64_id (by omega) (by omega), show (i + 1).toNat = i.toNat + 1 by omega]
       simp only [Bool.not_true, cond_false]
       rw [crun_gd (by rw [Nat.blt_eq]; omega), crun_gd (dec_iff.2 ⟨by omega, hk⟩), crun_cond]
       rw [dec_congr (show xs.drop i.toNat = ys.drop i.toNat ↔ xs.drop (i.toNat + 1) = ys.drop (i.toNat + 1) from ⟨fun hd => (hst.1 hd).2, fun hd => hst.2 ⟨hxy.1 hn, hd⟩⟩)] at h
       exact h
    · rw [decide_eq_false hi]
      rw [dec_iff.2 (by rw [List.drop_eq_nil_of_le (by omega), List.drop_eq_nil_of_le (by omega)])] at h
      exact h
 · cases h)
noncomputable def sros_s : CSumm := fun args H => match args, H with
 | [.qs 0 38 0 n, .qs 1 38 0 m], [(0, .seq 48 xs), (1, .seq 48 ys)] => .ite (dec (sroOk n m xs ys)) (.ret (.bool (dec (xs = ys))) []) .fail
 | _, _ => .fail
theorem sros_t (n m : Nat) (xs ys : List SV) : bodyCL Try.prog κ12 (fun _ => false) (ltab [("s", e12)]) true 300 Try.f12 (markC [(4, "s")] body12) [.qs 0 38 0 n, .qs 1 38 0 m] [(0, .seq 48 xs), (1, .seq 48 ys)] =
 bif (n : Int) != (m : Int) then zF else gd (dec ((0 : Int) ≤ 0 ∧ sroOk n m xs ys)) (bif dec (xs.drop (0 : Int).toNat = ys.drop (0 : Int).toNat) then .ret (.bool true) [] else .ret (.bool false) []) := by kernel_rfl
theorem sros_k : Known Try.prog 12 sros_s := by
 have h0 : Known Try.prog 12 (bodyCL Try.prog κ12 (fun _ => false) (ltab [("s", e12)]) true 300 Try.f12 (markC [(4, "s")] body12)) := ⟨⟨Try.f12, Try.func12, noNum_at noNumTry Try.func12, rfl⟩, bodyL_valid ok12 mixTry (ltab_cons sro_valid ltab_nil) Try.func12 (show Try.f12.body = some (fillC (ltab [("s", e12)]) (markC [(4, "s")] body12)) by kernel_rfl)⟩
 refine h0.weak (fun args H v ups h => ?_)
 unfold sros_s at h
 split at h
 · rename_i n m xs ys
   rw [crun_ite] at h
   cases hc : dec _ with
   | false => rw [hc] at h; cases h
   | true =>
    rw [hc, cond_true] at h
    have hk := dec_iff.1 hc
    obtain ⟨k1, k2, k3, k4, k5, k6⟩ := id hk
    refine (congrArg crun (sros_t n m xs ys)).trans ?_
    rw [show ((n : Int) != (m : Int)) = false by simp; omega, cond_false, crun_gd (dec_iff.2 ⟨by omega, hk⟩)]
    show crun (bif dec (xs = ys) then _ else _) = _
    cases hd : dec (xs = ys) with
    | true => rw [hd] at h; exact h
    | false => rw [hd] at h; exact h
 · cases h
end Go.Proofs.Ytkbbiaobohlogaa
/- What is advertised: the last route for each key. -/
namespace Go.Proofs.Ytkbbiaobohlogaa
open Go.Am
set_option maxRecDepth 100000
def nE (e : SV) : Nk := ⟨fun i => asI (cellAt e i), asB (cellAt e 15)⟩
def keyV (e : SV) : SV := .agg (keyN (rE e).n).cs
def rtV (e : SV) : SV := .agg (rE e).cs
def kNrm (k : SV) : Prop := k = .agg (nE k).cs
def ksOk (ks : List SV) : Prop := ∀ k ∈ ks, kNrm k
theorem kNrm_agg (n : Nk) : kNrm (.agg n.cs) := rfl
theorem rowEq_n (n m : Nk) : rowEq n.cs (.agg m.cs) = some (eqN n m) := rfl
theorem kHit_n (n : Nk) {k : SV} (hk : kNrm k) : kHit n.cs k = dec (.agg n.cs = k) := by
 unfold kNrm at hk
 generalize nE k = m at hk
 subst hk
 show eqN n m = _
 rw [Bool.eq_iff_iff, eqN_iff, dec_iff, SV.agg.injEq]
theorem eqAll_n (n : Nk) : ∀ (ks : List SV), ksOk ks → eqAll n.cs ks = true
 | [], _ => rfl
 | k :: ks, h => by
  have hk : kNrm k := h k (by simp)
  unfold kNrm at hk
  generalize nE k = m at hk
  subst hk
  simp only [eqAll, rowEq_n, Bool.true_and]
  exact eqAll_n n ks (fun k hk => h k (by simp [hk]))
noncomputable def putM (k v : SV) : List (SV × SV) → List (SV × SV)
 | [] => [(k, v)]
 | (k', v') :: m => bif dec (k = k') then (k', v) :: m else (k', v') :: putM k v m
theorem putM_eq (n : Nk) (v : SV) : ∀ (m : List (SV × SV)), ksOk (m.map (·.1)) →
  (bif hasH n.cs (m.map (·.1)) then m.map (·.1) else m.map (·.1) ++ [.agg n.cs]) = (putM (.agg n.cs) v m).map (·.1) ∧ putO n.cs (m.map (·.1)) (m.map (·.2)) v v = (putM (.agg n.cs) v m).map (·.2) ∧
  (putM (.agg n.cs) v m).length = (bif hasH n.cs (m.map (·.1)) then m.length else m.length + 1)
 | [], _ => ⟨rfl, rfl, rfl⟩
 | (k', v') :: m, h => by
  have hk := kHit_n n (k := k') (h k' (by simp))
  obtain ⟨i1, i2, i3⟩ := putM_eq n v m (fun k hk => h k (by simp only [List.map_cons, List.mem_cons]; exact .inr hk))
  unfold putO at i2 ⊢
  simp only [List.map_cons, hasH, putM, idxH, hk]
  cases hd : dec (SV.agg n.cs = k') with
  | true => simp [setN]
  | false =>
   simp only [Bool.false_or, cond_false, List.map_cons, List.length_cons]
   cases hh : hasH n.cs (m.map (·.1)) with
   | true =>
    rw [hh] at i1 i2 i3
    simp only [cond_true] at i1 i2 i3 ⊢
    exact ⟨by rw [← i1], by rw [← i2]; rfl, by rw [i3]⟩
   | false =>
    rw [hh] at i1 i2 i3
    simp only [cond_false] at i1 i2 i3 ⊢
    exact ⟨by rw [← i1]; rfl, by rw [← i2]; rfl, by rw [i3]⟩
noncomputable def stepM (m : List (SV × SV)) (x : SV) : List (SV × SV) := putM (keyV x) (rtV x) m
def mpoK (m : List (SV × SV)) : Chunk := .ext (.mpo 39 48 (List.range m.length) m.length (m.map (·.1)) (m.map (·.2)))
def bkOk (bs : List Nat) (cl : Nat) (ks vs xs : List SV) (l i : Int) : Prop := bs = List.range ks.length ∧ cl = ks.length ∧ vs.length = ks.length ∧ ksOk ks ∧ l = xs.length ∧ 0 ≤ i ∧ xs.length ≤ 100000
noncomputable def bk_s : CSumm := fun args H => match args, H with
 | [.mp 0, .psl 48 xs, .int .i64 l, .int .i64 i], [(0, .ext (.mpo 39 48 bs cl ks vs))] => .ite (dec (bkOk bs cl ks vs xs l i)) (.ret (.tup [.int .i64 2, .mp 0]) [(0, some (mpoK ((xs.drop i.toNat).foldl stepM (ks.zip vs))))]) .fail
 | _, _ => .fail
def bkM : List SV → HpL → Nat
 | [_, .psl _ xs, _, .int _ i], _ => xs.length - i.toNat
 | _, _ => 0
noncomputable def body19 : Code := Try.f19.body.getD .skip
noncomputable def c19 : Code := (loopAt 3 body19).getD .skip
noncomputable def e19 : LEnt := { ins := [3, 9, 10, 11], outs := [3], keep := [], size := 22, code := c19, s := bk_s }
noncomputable abbrev κ19 := tbl [(34, key_s)]
theorem ok19 : KOk Try.prog κ19 := tbl_cons key34_k ok0
noncomputable def bkT (N : Nat) (bs : List Nat) (cl : Nat) (ks vs xs : List SV) (l i : Int) : CTree :=
 gd (Nat.blt (xs.length - i.toNat) N) (gd (dec (bkOk bs cl ks vs xs l i)) (.ret (.tup [.int .i64 2, .mp 0]) [(0, some (mpoK ((xs.drop i.toNat).foldl stepM (ks.zip vs))))]))
theorem bk_t (N : Nat) (bs : List Nat) (cl : Nat) (ks vs xs : List SV) (l i : Int) : loopOnce Try.prog κ19 (fun _ => false) (ltab []) true 300 e19 { e19 with s := boundT bkM bk_s N } c19 [.mp 0, .psl 48 xs, .int .i64 l, .int .i64 i] [(0, .ext (.mpo 39 48 bs cl ks vs))] =
 bif decide (i < l) then gd (inB i xs.length) (gd (dec ((rE (xs.getD i.toNat .junk)).n.cs = (nOf (rE (xs.getD i.toNat .junk)).n.cs).cs)) (gd (eqAll (keyN (rE (xs.getD i.toNat .junk)).n).cs ks)
  (bkT N (bif hasH (keyN (rE (xs.getD i.toNat .junk)).n).cs ks then bs else bs ++ [cl]) (bif hasH (keyN (rE (xs.getD i.toNat .junk)).n).cs ks then cl else cl + 1) (bif hasH (keyN (rE (xs.getD i.toNat .junk)).n).cs ks then ks else ks ++ [keyV (xs.getD i.toNat .junk)]) (putO (keyN (rE (xs.getD i.toNat .junk)).n).cs ks vs (rtV (xs.getD i.toNat .junk)) (rtV (xs.getD i.toNat .junk))) xs l (w64 (i + 1)))))
 else .ret (.tup [.int .i64 2, .mp 0]) [] := by kernel_rfl
end Go.Proofs.Ytkbbiaobohlogaa
/- What is advertised: the last route for each key, known. -/
namespace Go.Proofs.Ytkbbiaobohlogaa
open Go.Am
set_option maxRecDepth 100000
theorem zip_parts : ∀ {ks vs : List SV}, vs.length = ks.length → (ks.zip vs).map (·.1) = ks ∧ (ks.zip vs).map (·.2) = vs
 | [], [], _ => ⟨rfl, rfl⟩
 | [], _ :: _, h => by simp at h
 | _ :: _, [], h => by simp at h
 | k :: ks, v :: vs, h => by
  obtain ⟨h1, h2⟩ := zip_parts (ks := ks) (vs := vs) (by simpa using h)
  exact ⟨by simp only [List.zip_cons_cons, List.map_cons, h1], by simp only [List.zip_cons_cons, List.map_cons, h2]⟩
theorem parts_zip : ∀ (m : List (SV × SV)), (m.map (·.1)).zip (m.map (·.2)) = m
 | [] => rfl
 | (a, b) :: m => by simp [parts_zip m]
theorem drop_fold {β : Type} (f : β → SV → β) {xs : List SV} {i : Nat} (h : i < xs.length) (b : β) : (xs.drop i).foldl f b = (xs.drop (i + 1)).foldl f (f b (xs.getD i .junk)) := by
 rw [List.drop_eq_getElem_cons h, List.foldl_cons]
 have e1 : xs.getD i .junk = xs[i] := by simp [List.getD_eq_getElem?_getD, h]
 rw [e1]
theorem bkOk_next {bs : List Nat} {cl : Nat} {ks vs xs : List SV} {l i : Int} (n : Nk) (v : SV) (h : bkOk bs cl ks vs xs l i) (hi : 0 ≤ i + 1) :
  bkOk (bif hasH n.cs ks then bs else bs ++ [cl]) (bif hasH n.cs ks then cl else cl + 1) (bif hasH n.cs ks then ks else ks ++ [.agg n.cs]) (putO n.cs ks vs v v) xs l (i + 1) ∧
  (bif hasH n.cs ks then ks else ks ++ [.agg n.cs]).zip (putO n.cs ks vs v v) = putM (.agg n.cs) v (ks.zip vs) := by
 obtain ⟨rfl, rfl, h3, h4, h5, h6, h7⟩ := h
 obtain ⟨z1, z2⟩ := zip_parts h3
 obtain ⟨p1, p2, p3⟩ := putM_eq n v (ks.zip vs) (by rw [z1]; exact h4)
 rw [z1] at p1 p2 p3
 rw [z2] at p2
 have hzl : (ks.zip vs).length = ks.length := by simp [List.length_zip, h3]
 refine ⟨⟨?_, ?_, ?_, ?_, h5, hi, h7⟩, ?_⟩
 · cases hh : hasH n.cs ks with
   | true => rfl
   | false => simp [List.range_succ]
 · cases hh : hasH n.cs ks with
   | true => rfl
   | false => simp
 · rw [p1, p2]; simp
 · intro k hk
   cases hh : hasH n.cs ks with
   | true => rw [hh, cond_true] at hk; exact h4 k hk
   | false =>
    rw [hh, cond_false, List.mem_append, List.mem_singleton] at hk
    rcases hk with hk | rfl
    · exact h4 k hk
    · exact kNrm_agg n
 · rw [p1, p2, parts_zip]
theorem bk_valid : ValidL Try.prog e19 := loop_valid5 (T := ltab []) (sp := true) (fuel := 300) (c := c19) (μ := bkM) mixTry ltab_nil (show fillC (ltab []) c19 = c19 by kernel_rfl) (by
 intro N args H v' ups' hb h
 refine ⟨κ19, fun _ => false, ok19, ?_⟩
 unfold e19 bk_s at h
 simp only [] at h
 split at h
 · rename_i xs l i bs cl ks vs
   rw [crun_ite] at h
   cases hc : dec _ with
   | false => rw [hc] at h; cases h
   | true =>
    rw [hc, cond_true] at h
    have hok := dec_iff.1 hc
    obtain ⟨h1, h2, h3, h4, h5, h6, h7⟩ := id hok
    have ht := congrArg crun (bk_t N bs cl ks vs xs l i)
    have hN : Nat.blt (xs.length - i.toNat) (N + 1) = true := hb
    rw [Nat.blt_eq] at hN
    by_cases hi : i < l
    · have la : i.toNat < xs.length := by omega
      rw [decide_eq_true hi, cond_true, crun_gd (show inB i xs.length = true by unfold inB; simp; omega), crun_gd (dec_iff.2 (nOf_cs _).symm), crun_gd (eqAll_n _ ks h4), show w64 (i + 1) = i + 1 from w64_id (by omega) (by omega)] at ht
      obtain ⟨n1, n2⟩ := bkOk_next (keyN (rE (xs.getD i.toNat .junk)).n) (rtV (xs.getD i.toNat .junk)) hok (show 0 ≤ i + 1 by omega)
      unfold bkT at ht
      have n1' : bkOk (bif hasH (keyN (rE (xs.getD i.toNat .junk)).n).cs ks then bs else bs ++ [cl]) (bif hasH (keyN (rE (xs.getD i.toNat .junk)).n).cs ks then cl else cl + 1) (bif hasH (keyN (rE (xs.getD i.toNat .junk)).n).cs ks then ks else ks ++ [keyV (xs.getD i.toNat .junk)]) (putO (keyN (rE (xs.getD i.toNat .junk)).n).cs ks vs (rtV (xs.getD i.toNat .junk)) (rtV (xs.getD i.toNat .junk))) xs l (i + 1) := n1
      have n2' : (bif hasH (keyN (rE (xs.getD i.toNat .junk)).n).cs ks then ks else ks ++ [keyV (xs.getD i.toNat .junk)]).zip (putO (keyN (rE (xs.getD i.toNat .junk)).n).cs ks vs (rtV (xs.getD i.toNat .junk)) (rtV (xs.getD i.toNat .junk))) = stepM (ks.zip vs) (xs.getD i.toNat .junk) := n2
      rw [crun_gd (by rw [Nat.blt_eq]; omega), crun_gd (dec_iff.2 n1'), n2', show (i + 1).toNat = i.toNat + 1 by omega, ← drop_fold stepM la] at ht
      exact ⟨_, _, ht.trans h, .same fun _ => rfl⟩
    · rw [decide_eq_false hi, cond_false] at ht
      rw [List.drop_eq_nil_of_le (by omega), List.foldl_nil] at h
      cases h
      refine ⟨_, _, ht, .same fun x => ?_⟩
      obtain ⟨z1, z2⟩ := zip_parts h3
      have hzl : (ks.zip vs).length = ks.length := by simp [List.length_zip, h3]
      have hm : mpoK (ks.zip vs) = .ext (.mpo 39 48 bs cl ks vs) := by unfold mpoK; rw [z1, z2, hzl, h1, h2]
      rw [hm]
      simp only [updF]
      by_cases hx : x = 0
      · subst hx; rfl
      · rw [if_neg hx]
 · cases h)
noncomputable def lastM (xs : List SV) : List (SV × SV) := xs.foldl stepM []
noncomputable def by_s : CSumm := fun args H => match args, H with
 | [.psl 48 xs], [] => .ite (dec (xs.length ≤ 100000)) (.ret (.mp 0) [(0, some (mpoK (lastM xs)))]) .fail
 | _, _ => .fail
theorem by_t (xs : List SV) : bodyCL Try.prog κ19 (fun _ => false) (ltab [("s", e19)]) true 300 Try.f19 (markC [(3, "s")] body19) [.psl 48 xs] [] =
 gd (dec (bkOk [] 0 [] [] xs xs.length 0)) (.ret (.mp 0) [(0, some (mpoK ((xs.drop (0 : Int).toNat).foldl stepM (List.zip [] []))))]) := by kernel_rfl
theorem by_k : Known Try.prog 19 by_s := by
 have h0 : Known Try.prog 19 (bodyCL Try.prog κ19 (fun _ => false) (ltab [("s", e19)]) true 300 Try.f19 (markC [(3, "s")] body19)) := ⟨⟨Try.f19, Try.func19, noNum_at noNumTry Try.func19, rfl⟩, bodyL_valid ok19 mixTry (ltab_cons bk_valid ltab_nil) Try.func19 (show Try.f19.body = some (fillC (ltab [("s", e19)]) (markC [(3, "s")] body19)) by kernel_rfl)⟩
 refine h0.weak (fun args H v ups h => ?_)
 unfold by_s at h
 split at h
 · rename_i xs
   rw [crun_ite] at h
   cases hc : dec _ with
   | false => rw [hc] at h; cases h
   | true =>
    rw [hc, cond_true] at h
    refine (congrArg crun (by_t xs)).trans ?_
    rw [crun_gd (dec_iff.2 ⟨rfl, rfl, rfl, fun k hk => (by cases hk), rfl, by omega, dec_iff.1 hc⟩)]
    exact h
 · cases h
end Go.Proofs.Ytkbbiaobohlogaa
