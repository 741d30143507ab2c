/- What is advertised: none that is announced was there before. -/
import Derived.Test.YtkbbiaobohlogaaPart10
import Derived.Test.YtkbbiaobohlogaaPart1
set_option linter.unusedVariables false
set_option linter.unusedSimpArgs false
namespace Go.Proofs.Ytkbbiaobohlogaa
open Go.Am
set_option maxRecDepth 100000
def saOk (bs : List SV) (r : Rt) (m : Nat) (j : Int) : Prop := m = bs.length ∧ 0 ≤ j ∧ bs.length ≤ 100000 ∧ okL bs ∧ aNrm r.d ∧ ∀ b ∈ bs, (rE b).cs ≠ r.cs
noncomputable def sa_s : CSumm := fun args H => match args, H with
 | [.int .i64 j, .qs 0 38 0 m, .ptr 1 0], [(0, .seq 48 bs), (1, .cells 48 cs)] => .ite (dec (cs = (rOf cs).cs ∧ saOk bs (rOf cs) m j)) (.ret (.tup [.int .i64 8, .qs 0 38 0 m, .ptr 1 0]) []) .fail
 | _, _ => .fail
def saM : List SV → HpL → Nat
 | [.int _ j, .qs _ _ _ m, _], _ => m - j.toNat
 | _, _ => 0
noncomputable def c3c : Code := (loopAt 26 body3).getD .skip
noncomputable def e3c : LEnt := { ins := [14, 7, 13], outs := [7, 13], keep := [0, 1, 5, 6, 8, 12], size := 141, code := c3c, s := sa_s }
noncomputable abbrev κ3c := tbl [(11, srt_s)]
theorem ok3c : KOk Try.prog κ3c := tbl_cons srt_k ok0
noncomputable def srG2 (x y : Rt) (K : CTree) : CTree := gd (dec (x.cs = (rOf x.cs).cs ∧ y.cs = (rOf y.cs).cs ∧ aNrm (rOf x.cs).d ∧ aNrm (rOf y.cs).d)) K
theorem sa_t (N m : Nat) (bs : List SV) (r : Rt) (j : Int) : loopOnce Try.prog κ3c (fun _ => false) (ltab []) true 300 e3c { e3c with s := boundT saM sa_s N } c3c [.int .i64 j, .qs 0 38 0 m, .ptr 1 0] [(0, .seq 48 bs), (1, .cells 48 r.cs)] =
 bif decide (j < m) then gd (inB j m) (gd (decide (0 + j.toNat < bs.length)) (srG2 (rE (bs.getD (0 + j.toNat) .junk)) r (bif eqV (rE (bs.getD (0 + j.toNat) .junk)).cs r.cs then .ret (.tup [.int .i64 1, .qs 0 38 0 m, .ptr 1 0]) [] else
  gd (Nat.blt (m - (w64 (j + 1)).toNat) N) (gd (dec (r.cs = (rOf r.cs).cs ∧ saOk bs (rOf r.cs) m (w64 (j + 1)))) (.ret (.tup [.int .i64 8, .qs 0 38 0 m, .ptr 1 0]) [])))))
 else .ret (.tup [.int .i64 8, .qs 0 38 0 m, .ptr 1 0]) [] := by kernel_rfl
def sgOk (gs : List SV) (r : Rt) (n : Nat) (j : Int) : Prop := n = gs.length ∧ 0 ≤ j ∧ gs.length ≤ 100000 ∧ (∀ g ∈ gs, KyOk g) ∧ okN r.n ∧ ∀ g ∈ gs, cmpN (nE g).cs r.n.cs ≠ 0
noncomputable def sg_s : CSumm := fun args H => match args, H with
 | [.int .i64 j, .qs 0 21 0 n, .ptr 1 0], [(0, .seq 39 gs), (1, .cells 48 cs)] => .ite (dec (cs = (rOf cs).cs ∧ sgOk gs (rOf cs) n j)) (.ret (.tup [.int .i64 10, .qs 0 21 0 n, .ptr 1 0]) []) .fail
 | _, _ => .fail
noncomputable def c3d : Code := (loopAt 31 body3).getD .skip
noncomputable def e3d : LEnt := { ins := [15, 5, 13], outs := [5, 13], keep := [0, 1, 6, 7, 8, 12], size := 141, code := c3d, s := sg_s }
theorem sg_t (N n : Nat) (gs : List SV) (r : Rt) (j : Int) : loopOnce Try.prog κ8a (fun _ => false) (ltab []) true 300 e3d { e3d with s := boundT saM sg_s N } c3d [.int .i64 j, .qs 0 21 0 n, .ptr 1 0] [(0, .seq 39 gs), (1, .cells 48 r.cs)] =
 bif decide (j < n) then gd (inB j n) (gd (decide (0 + j.toNat < gs.length)) (cmG (nE (gs.getD (0 + j.toNat) .junk)).cs r.n.cs (bif cmpN (nE (gs.getD (0 + j.toNat) .junk)).cs r.n.cs == 0 then .ret (.tup [.int .i64 1, .qs 0 21 0 n, .ptr 1 0]) [] else
  gd (Nat.blt (n - (w64 (j + 1)).toNat) N) (gd (dec (r.cs = (rOf r.cs).cs ∧ sgOk gs (rOf r.cs) n (w64 (j + 1)))) (.ret (.tup [.int .i64 10, .qs 0 21 0 n, .ptr 1 0]) [])))))
 else .ret (.tup [.int .i64 10, .qs 0 21 0 n, .ptr 1 0]) [] := by kernel_rfl
end Go.Proofs.Ytkbbiaobohlogaa
/- What is advertised: none that is announced was there before, known. -/
namespace Go.Proofs.Ytkbbiaobohlogaa
open Go.Am
set_option maxRecDepth 100000
theorem sa_valid : ValidL Try.prog e3c := loop_valid (κ := κ3c) (ι := fun _ => false) (T := ltab []) (sp := true) (fuel := 300) (c := c3c) (μ := saM) ok3c mixTry ltab_nil (show fillC (ltab []) c3c = c3c by kernel_rfl) (by
 intro N args H r hb h
 unfold e3c sa_s at h
 simp only [] at h
 split at h
 · rename_i j m bs cs
   rw [crun_ite] at h
   cases hc : dec _ with
   | false => rw [hc] at h; cases h
   | true =>
    rw [hc, cond_true] at h
    obtain ⟨e1, hk⟩ := dec_iff.1 hc
    generalize rOf cs = q at e1 hk
    subst e1
    obtain ⟨k1, k2, k3, k4, k5, k6⟩ := id hk
    refine (congrArg crun (sa_t N m bs q j)).trans ?_
    have hN : Nat.blt (m - j.toNat) (N + 1) = true := hb
    rw [Nat.blt_eq] at hN
    by_cases hj : j < m
    · have la : j.toNat < bs.length := by omega
      have hbm := getD_mem la
      have hbk := k4 _ hbm
      rw [decide_eq_true hj, cond_true, Nat.zero_add, crun_gd (show inB j m = true by unfold inB; simp; omega), crun_gd (decide_eq_true la)]
      unfold srG2
      rw [crun_gd (dec_iff.2 ⟨rE_fix _, (rOf_cs q).symm, hbk.2.2, k5⟩)]
      have hne : eqV (rE (bs.getD j.toNat .junk)).cs q.cs = false := by
       cases he : eqV (rE (bs.getD j.toNat .junk)).cs q.cs with
       | false => rfl
       | true => exact absurd (eqV_iff.1 he) (k6 _ hbm)
      rw [hne, cond_false, show w64 (j + 1) = j + 1 from w64_id (by omega) (by omega), crun_gd (by rw [Nat.blt_eq]; omega), crun_gd (dec_iff.2 ⟨(rOf_cs q).symm, k1, by omega, k3, k4, k5, k6⟩)]
      exact h
    · rw [decide_eq_false hj, cond_false]; exact h
 · cases h)
theorem sg_valid : ValidL Try.prog e3d := loop_valid (κ := κ8a) (ι := fun _ => false) (T := ltab []) (sp := true) (fuel := 300) (c := c3d) (μ := saM) ok8a mixTry ltab_nil (show fillC (ltab []) c3d = c3d by kernel_rfl) (by
 intro N args H r hb h
 unfold e3d sg_s at h
 simp only [] at h
 split at h
 · rename_i j n gs cs
   rw [crun_ite] at h
   cases hc : dec _ with
   | false => rw [hc] at h; cases h
   | true =>
    rw [hc, cond_true] at h
    obtain ⟨e1, hk⟩ := dec_iff.1 hc
    generalize rOf cs = q at e1 hk
    subst e1
    obtain ⟨k1, k2, k3, k4, k5, k6⟩ := id hk
    refine (congrArg crun (sg_t N n gs q j)).trans ?_
    have hN : Nat.blt (n - j.toNat) (N + 1) = true := hb
    rw [Nat.blt_eq] at hN
    by_cases hj : j < n
    · have la : j.toNat < gs.length := by omega
      have hbm := getD_mem la
      have hbk := k4 _ hbm
      rw [decide_eq_true hj, cond_true, Nat.zero_add, crun_gd (show inB j n = true by unfold inB; simp; omega), crun_gd (decide_eq_true la), cmG_run hbk.2.1 k5]
      have hne : (cmpN (nE (gs.getD j.toNat .junk)).cs q.n.cs == 0) = false := by
       have := k6 _ hbm
       simpa using this
      rw [hne, cond_false, show w64 (j + 1) = j + 1 from w64_id (by omega) (by omega), crun_gd (by rw [Nat.blt_eq]; omega), crun_gd (dec_iff.2 ⟨(rOf_cs q).symm, k1, by omega, k3, k4, okN_of (n := q.n) rfl k5, k6⟩)]
      exact h
    · rw [decide_eq_false hj, cond_false]; exact h
 · cases h)
/- All that is announced. -/
def frOk (an bs gs : List SV) : Prop := ∀ a ∈ an, rtOk a ∧ (∀ b ∈ bs, (rE b).cs ≠ (zRt (rE a)).cs) ∧ ∀ g ∈ gs, cmpN (nE g).cs (rE a).n.cs ≠ 0
def fnOk (an bs gs : List SV) (k m n : Nat) (i : Int) : Prop := k = an.length ∧ m = bs.length ∧ n = gs.length ∧ 0 ≤ i ∧ an.length ≤ 100000 ∧ bs.length ≤ 100000 ∧ gs.length ≤ 100000 ∧ okL bs ∧ (∀ g ∈ gs, KyOk g) ∧ frOk an bs gs
noncomputable def fn_s : CSumm := fun args H => match args, H with
 | [.int .i64 i, .qs 0 38 0 k, .qs 1 38 0 m, .qs 2 21 0 n], [(0, .seq 48 an), (1, .seq 48 bs), (2, .seq 39 gs)] => .ite (dec (fnOk an bs gs k m n i)) (.ret (.tup [.int .i64 6, .qs 0 38 0 k, .qs 1 38 0 m, .qs 2 21 0 n]) []) .fail
 | _, _ => .fail
def fnM : List SV → HpL → Nat
 | [.int _ i, .qs _ _ _ k, _, _], _ => k - i.toNat
 | _, _ => 0
noncomputable def c3e : Code := (loopAt 21 body3).getD .skip
noncomputable def e3e : LEnt := { ins := [12, 6, 7, 5], outs := [6, 7, 5], keep := [0, 1, 8], size := 141, code := c3e, s := fn_s }
noncomputable abbrev T3e : LTab := ltab [("s", e3c), ("g", e3d)]
noncomputable abbrev m3e : Code := markC [(26, "s"), (31, "g")] c3e
noncomputable abbrev κ3e := tbl [(10, ownr_s)]
theorem ok3e : KOk Try.prog κ3e := tbl_cons ownr_k ok0
noncomputable def fnX (k m n : Nat) : CTree := .ret (.tup [.int .i64 6, .qs 0 38 0 k, .qs 1 38 0 m, .qs 2 21 0 n]) []
noncomputable def fnZ (m n : Nat) (bs gs : List SV) (r : Rt) (K : CTree) : CTree :=
 gd (dec (r.cs = (rOf r.cs).cs ∧ aSz (rOf r.cs).d)) (gd (dec ((zRt r).cs = (rOf (zRt r).cs).cs ∧ saOk bs (rOf (zRt r).cs) m 0)) (gd (dec ((zRt r).cs = (rOf (zRt r).cs).cs ∧ sgOk gs (rOf (zRt r).cs) n 0)) K))
theorem fn_t (N k m n : Nat) (an bs gs : List SV) (i : Int) : loopOnce Try.prog κ3e (fun _ => false) T3e true 300 e3e { e3e with s := boundT fnM fn_s N } m3e [.int .i64 i, .qs 0 38 0 k, .qs 1 38 0 m, .qs 2 21 0 n] [(0, .seq 48 an), (1, .seq 48 bs), (2, .seq 39 gs)] =
 bif decide (i < k) then gd (inB i k) (gd (decide (0 + i.toNat < an.length)) (fnZ m n bs gs (rE (an.getD (0 + i.toNat) .junk)) (gd (Nat.blt (k - (w64 (i + 1)).toNat) N) (gd (dec (fnOk an bs gs k m n (w64 (i + 1)))) (fnX k m n)))))
 else fnX k m n := by kernel_rfl
theorem fn_valid : ValidL Try.prog e3e := loop_valid (κ := κ3e) (ι := fun _ => false) (T := T3e) (sp := true) (fuel := 300) (c := m3e) (μ := fnM) ok3e mixTry (ltab_cons sa_valid (ltab_cons sg_valid ltab_nil)) (show fillC T3e m3e = c3e by kernel_rfl) (by
 intro N args H r hb h
 unfold e3e fn_s at h
 simp only [] at h
 split at h
 · rename_i i k m n an bs gs
   rw [crun_ite] at h
   cases hc : dec _ with
   | false => rw [hc] at h; cases h
   | true =>
    rw [hc, cond_true] at h
    have hok := dec_iff.1 hc
    obtain ⟨k1, k2, k3, k4, k5, k6, k7, k8, k9, k10⟩ := id hok
    refine (congrArg crun (fn_t N k m n an bs gs i)).trans ?_
    have hN : Nat.blt (k - i.toNat) (N + 1) = true := hb
    rw [Nat.blt_eq] at hN
    by_cases hi : i < k
    · have la : i.toNat < an.length := by omega
      obtain ⟨a1, a2, a3⟩ := k10 _ (getD_mem la)
      rw [decide_eq_true hi, cond_true, Nat.zero_add, crun_gd (show inB i k = true by unfold inB; simp; omega), crun_gd (decide_eq_true la)]
      unfold fnZ
      rw [crun_gd (dec_iff.2 ⟨rE_fix _, a1.2⟩), crun_gd (dec_iff.2 ⟨(rOf_cs _).symm, k2, Int.le_refl _, k6, k8, a1.1.2.2, a2⟩), crun_gd (dec_iff.2 ⟨(rOf_cs _).symm, k3, Int.le_refl _, k7, k9, okN_of (n := (rE (an.getD i.toNat .junk)).n) rfl a1.1.2.1, a3⟩)]
      rw [show w64 (i + 1) = i + 1 from w64_id (by omega) (by omega), crun_gd (by rw [Nat.blt_eq]; omega), crun_gd (dec_iff.2 ⟨k1, k2, k3, by omega, k5, k6, k7, k8, k9, k10⟩)]
      exact h
    · rw [decide_eq_false hi, cond_false]; exact h
 · cases h)
end Go.Proofs.Ytkbbiaobohlogaa
/- What is advertised: the chapter's example: the loops over maps. -/
namespace Go.Proofs.Ytkbbiaobohlogaa
open Go.Am
set_option maxRecDepth 100000
def nF (n : Int) : List SV := [.int .i64 3, .int .u64 (281474976710656 + n), .int .u8 0, .int .u8 0, .int .u8 0, .int .u8 0, .int .u8 0, .int .u8 0, .int .u8 0, .int .u8 0, .int .u8 0, .int .u8 0, .int .u32 0, .int .u64 0, .int .u32 (10 + n), .bool true, .int .u32 0, .int .i64 0, .int .u32 0, .int .u32 0, .int .u32 0]
def aF : List SV := [.int .i64 0, .nils, .int .u32 1, .bool false, .int .u32 0, .bool true, .int .u32 100, .bool false, .int .u32 0, .nils, .nils, .int .i64 0, .int .u32 0, .int .u32 0, .int .u32 0]
def rF (n : Int) : List SV := nF n ++ aF ++ [.int .u32 0, .bool false]
def aP : List SV := [.int .i64 0, .psl 33 [], .int .u32 1, .bool false, .int .u32 0, .bool true, .int .u32 100, .bool false, .int .u32 0, .psl 35 [], .psl 80 [], .int .i64 0, .int .u32 0, .int .u32 0, .int .u32 0]
def rP (n : Int) : List SV := nF n ++ aP ++ [.int .u32 0, .bool false]
def mF (a b : Int) : Chunk := .ext (.mpo 39 48 [0, 1] 2 [.agg (nF a), .agg (nF b)] [.agg (rP a), .agg (rP b)])
noncomputable abbrev κ0 : Nat → Option CSumm := openT Try.prog κc 300 5
noncomputable abbrev ι0 : Nat → Bool := fun g => inl κc g && hasBody Try.prog g
theorem k0Ok : KOk Try.prog κ0 := openT_ok noNumTry mixTry cOk 300 5
noncomputable def body7L : Code := Try.f7.body.getD .skip
noncomputable def c7aL : Code := (loopAt 4 body7L).getD .skip
noncomputable def c7bL : Code := (loopAt 10 body7L).getD .skip
def A7a : List SV := [.ptr 0 0, .mp 2, .mp 3]
def H7a : HpL := [(0, .mit 1 2 [] 2), (1, mF 1 2), (2, mF 2 3), (3, .ext (.mpo 39 65 [] 0 [] []))]
def A7bL : List SV := [.ptr 0 0, .mp 2]
def H7bL : HpL := [(0, .mit 1 2 [] 2), (1, mF 1 2), (2, mF 2 3)]
def u7a : List (Nat × Option Chunk) := [(3, some (.ext (.mpo 39 65 [0] 1 [.agg (nF 1)] [.agg []]))), (0, none)]
def u7b : List (Nat × Option Chunk) := [(2, some (.ext (.mpo 39 48 [1] 2 [.agg (nF 3)] [.agg (rP 3)]))), (0, none)]
noncomputable def s7a : CSumm := fun args H => .ite (dec (args = A7a ∧ H = H7a)) (.ret (.tup [.int .i64 2, .mp 2, .mp 3]) u7a) .fail
noncomputable def s7b : CSumm := fun args H => .ite (dec (args = A7bL ∧ H = H7bL)) (.ret (.tup [.int .i64 4, .mp 2]) u7b) .fail
noncomputable def e7aL : LEnt := { ins := [25, 7, 8], outs := [7, 8], keep := [4, 5, 6], size := 91, code := c7aL, s := s7a }
noncomputable def e7bL : LEnt := { ins := [42, 7], outs := [7], keep := [4, 5, 8], size := 91, code := c7bL, s := s7b }
theorem n7a_t : loopNOnce Try.prog κ0 ι0 300 4 true e7aL A7a H7a = .any (.ret (.tup [.int .i64 2, .mp 2, .mp 3]) u7a) (.ret (.tup [.int .i64 2, .mp 2, .mp 3]) u7a) := by kernel_rfl
theorem n7b_t : loopNOnce Try.prog κ0 ι0 300 4 true e7bL A7bL H7bL = .any (.ret (.tup [.int .i64 4, .mp 2]) u7b) (.ret (.tup [.int .i64 4, .mp 2]) u7b) := by kernel_rfl
theorem v7a : ValidL Try.prog e7aL := mapLoop_valid k0Ok mixTry (fun args H r h => by
 have h' : crun (s7a args H) = some r := h
 unfold s7a at h'
 rw [crun_ite] at h'
 cases hc : dec (args = A7a ∧ H = H7a) with
 | false => rw [hc] at h'; cases h'
 | true =>
  rw [hc, cond_true] at h'
  obtain ⟨rfl, rfl⟩ := dec_iff.1 hc
  rw [n7a_t]
  exact denN_same h' h')
theorem v7b : ValidL Try.prog e7bL := mapLoop_valid k0Ok mixTry (fun args H r h => by
 have h' : crun (s7b args H) = some r := h
 unfold s7b at h'
 rw [crun_ite] at h'
 cases hc : dec (args = A7bL ∧ H = H7bL) with
 | false => rw [hc] at h'; cases h'
 | true =>
  rw [hc, cond_true] at h'
  obtain ⟨rfl, rfl⟩ := dec_iff.1 hc
  rw [n7b_t]
  exact denN_same h' h')
noncomputable abbrev T7L : LTab := ltab [("a", e7aL), ("b", e7bL)]
noncomputable abbrev m7L : Code := markC [(4, "a"), (10, "b")] body7L
noncomputable def diff_b : CSumm := bodyCL Try.prog κ0 ι0 T7L true 300 Try.f7 m7L
theorem diff_k0 : Known Try.prog 7 diff_b := ⟨⟨Try.f7, Try.func7, noNum_at noNumTry Try.func7, rfl⟩, bodyL_valid k0Ok mixTry (ltab_cons v7a (ltab_cons v7b ltab_nil)) Try.func7 (show Try.f7.body = some (fillC T7L m7L) by kernel_rfl)⟩
end Go.Proofs.Ytkbbiaobohlogaa
/- What is advertised: the chapter's example: it holds. -/
namespace Go.Proofs.Ytkbbiaobohlogaa
open Go.Am
set_option maxRecDepth 100000
def D7 : List SV := [.sl 0 38 0 2, .sl 1 38 0 2]
def DH7 : HpL := [(0, .cells 48 (rF 1 ++ rF 2)), (1, .cells 48 (rF 2 ++ rF 3))]
def v7 : SV := .tup [.qs 2 21 0 1, .qs 3 38 0 1]
def u7 : List (Nat × Option Chunk) := [(2, some (.seq 39 [.agg (nF 1)])), (3, some (.seq 48 [.agg (rP 3)]))]
theorem diff_t : diff_b D7 DH7 = bif dec (A7a = A7a ∧ H7a = H7a) then bif dec (A7bL = A7bL ∧ H7bL = H7bL) then .ret v7 u7 else .fail else .fail := by kernel_rfl
noncomputable def diff_s : CSumm := fun args H => .ite (dec (args = D7 ∧ H = DH7)) (.ret v7 u7) .fail
theorem diff_k : Known Try.prog 7 diff_s := diff_k0.weak (by
 intro args H v ups h
 unfold diff_s at h
 rw [crun_ite] at h
 cases hc : dec (args = D7 ∧ H = DH7) with
 | false => rw [hc] at h; cases h
 | true =>
  rw [hc, cond_true] at h
  obtain ⟨rfl, rfl⟩ := dec_iff.1 hc
  refine (congrArg crun diff_t).trans ?_
  rw [dec_iff.2 ⟨rfl, rfl⟩, dec_iff.2 ⟨rfl, rfl⟩, cond_true, cond_true]
  exact h)
noncomputable abbrev κd := tbl [(7, diff_s)]
theorem dOk : KOk Try.prog κd := tbl_cons diff_k ok0
theorem lives_t : opn κd Try.f5 [] [] = bif dec (D7 = D7 ∧ DH7 = DH7) then .ret (.bool true) [] else .fail := by kernel_rfl
def lives_s : CSumm := fun args H => match args, H with
 | [], [] => .ret (.bool true) []
 | _, _ => .fail
theorem lives_k : Known Try.prog 5 lives_s := (openKnown dOk Try.func5 rfl).weak (by
 intro args H v ups h
 unfold lives_s at h
 split at h
 · refine (congrArg crun lives_t).trans ?_
   rw [dec_iff.2 ⟨rfl, rfl⟩]
   exact h
 · cases h)
end Go.Proofs.Ytkbbiaobohlogaa
/- What is advertised: the law's tree. -/
namespace Go.Proofs.Ytkbbiaobohlogaa
open Go.Am
set_option maxRecDepth 100000
abbrev fs3 : List (Option (Nat × Nat)) := [none, none, none, some (48, 38)]
noncomputable def e3bj : LEnt := { e3b with s := inN fs3 ki_s }
noncomputable abbrev T3 : LTab := ltab [("k", e3bj), ("n", e3e)]
noncomputable abbrev m3 : Code := markC [(9, "k"), (21, "n")] body3
noncomputable abbrev κ3 := tbl [(5, lives_s), (6, lrs_s), (7, df_s), (8, w8_s), (12, sros_s)]
noncomputable def law_b : CSumm := bodyCL Try.prog κ3 (fun _ => false) T3 true 300 Try.f3 m3
noncomputable def lLg (xs : List SV) : Bool := allLg xs 0 && decide ((xs.length : Int) ≤ 40)
noncomputable def rB (b : Bool) : CTree := .ret (.bool b) []
noncomputable def lawE (ys G2 A2 L : List SV) : CTree :=
 gd (dec (rsOk ys)) (gd (dec (sroOk (wol L).length (wol ys).length (wol L) (wol ys))) (bif dec (wol L = wol ys) then (bif (G2.length : Int) == 0 then rB ((A2.length : Int) == 0) else rB false) else rB false))
noncomputable def lawM (xs ys G A G2 A2 B K : List SV) : CTree :=
 gd (dec (rsOk xs ∧ rsOk ys)) (gd (dec (rsOk xs)) (gd (dec (kiOk B G [] B.length G.length 0 0)) (bif (K.length : Int) != w64 ((B.length : Int) - (G.length : Int)) then rB false else
  gd (dec (fnOk A B G A.length B.length G.length 0)) (gd (dec (rsOk ys ∧ rsOk ys)) (gd (decide (K.length = K.length)) (el 0 A.length A fun a => grB (K.length + a.length)
   (gd (dec (K.length + a.length = (K ++ a).length ∧ rsOk (K ++ a))) (lawE ys G2 A2 (K ++ a)))))))))
theorem law_t (xs ys : List SV) : law_b [.psl 48 xs, .psl 48 ys] [] =
 gd (dec (xs.length ≤ 9223372036854775807)) (bif !(lLg xs) then rB true else gd (dec (ys.length ≤ 9223372036854775807)) (bif !(lLg ys) then rB true else
  lawM xs ys (goneK (lastM xs) (lastM ys)) (annK (lastM xs) (lastM ys)) (goneK (lastM ys) (lastM ys)) (annK (lastM ys) (lastM ys)) (wol xs) ([] ++ keepL (goneK (lastM xs) (lastM ys)) ((wol xs).drop (0 : Int).toNat)))) := by kernel_rfl
end Go.Proofs.Ytkbbiaobohlogaa
/- What is advertised: the plain law: lists by key. -/
namespace Go.Proofs.Ytkbbiaobohlogaa
open Go.Am
set_option maxRecDepth 100000
theorem keyV_of {a : SV} {n : Nk} (h : (rE a).n.cs = n.cs) : keyV a = .agg (keyN n).cs := congrArg SV.agg (keyN_cs h)
theorem nE_key (a : SV) : (keyN (nE (keyV a))).cs = (keyN (rE a).n).cs := (keyN_cs (nE_agg _)).trans (key_key _)
theorem cR_key (a b : SV) : cR a b = cf (keyV a) (keyV b) :=
 cf_cs ((keyN_cs (nE_agg _)).trans (nE_key a).symm) ((keyN_cs (nE_agg _)).trans (nE_key b).symm)
theorem cf_keyV {a b : SV} : cf (keyV a) (keyV b) = 0 ↔ keyV a = keyV b := by
 constructor
 · intro h
   have := cf_zero h
   rw [nE_key, nE_key] at this
   exact congrArg SV.agg this
 · intro h; rw [h, cf_self]
theorem hit_iff {g b : SV} (hg : KyOk g) (hb : rtOk b) : cmpN (nE g).cs (rE b).n.cs = 0 ↔ g = keyV b := by
 rw [cmpN_eq, cf_cs (y := .agg (rE b).n.cs) (y' := keyV b) (x := .agg (nE g).cs) (x' := g) (by rw [← hg.1]) ((keyN_cs (nE_agg _)).trans (nE_key b).symm)]
 constructor
 · intro h; exact cf_key hg (keyV_ok hb) h
 · rintro rfl; exact cf_self _
theorem keyV_z (x : SV) : keyV (zR x) = keyV x := keyV_of (a := zR x) (n := (rE x).n) rfl
theorem zR_z (x : SV) : zR (zR x) = zR x := rfl
theorem zR_same {x y : SV} (h : sameNA x y) : zR x = zR y := by
 have e : ∀ r : Rt, (zRt r).cs = r.n.cs ++ (r.d.cs ++ [.int .u32 0, .bool false]) := fun r => rfl
 unfold zR
 rw [e, e, h.1, h.2]
theorem same_z {x y : SV} (h : (zRt (rE x)).cs = (zRt (rE y)).cs) : sameNA x y :=
 ⟨congrArg (fun c => (rOf c).n.cs) h, congrArg (fun c => (rOf c).d.cs) h⟩
theorem rtOk_z {x : SV} (h : rtOk x) : rtOk (zR x) := ⟨zR_ok h.1, h.2⟩
/- The last of a key. -/
theorem lk_init (k : SV) : ∀ (xs : List SV) (o : Option SV), xs.foldl (fun o x => bif dec (keyV x = k) then some x else o) o = (lk k xs).or o
 | [], o => rfl
 | x :: xs, o => by
  show xs.foldl _ (bif dec (keyV x = k) then some x else o) = (xs.foldl _ (bif dec (keyV x = k) then some x else none)).or o
  rw [lk_init k xs, lk_init k xs (bif dec (keyV x = k) then some x else none)]
  cases dec (keyV x = k) <;> cases lk k xs <;> rfl
theorem lk_cons (k x : SV) (xs : List SV) : lk k (x :: xs) = (lk k xs).or (bif dec (keyV x = k) then some x else none) := lk_init k xs _
theorem lk_append (k : SV) (xs ys : List SV) : lk k (xs ++ ys) = (lk k ys).or (lk k xs) := by
 unfold lk
 rw [List.foldl_append, lk_init]
 rfl
theorem lk_some {k x : SV} : ∀ {xs : List SV}, lk k xs = some x → x ∈ xs ∧ keyV x = k
 | [], h => by cases h
 | y :: xs, h => by
  rw [lk_cons] at h
  cases hl : lk k xs with
  | some z =>
   rw [hl] at h
   have := lk_some (h ▸ hl : lk k xs = some x)
   exact ⟨.tail _ this.1, this.2⟩
  | none =>
   rw [hl] at h
   cases hd : dec (keyV y = k) with
   | false => rw [hd] at h; cases h
   | true => rw [hd] at h; cases h; exact ⟨.head _, dec_iff.1 hd⟩
theorem lk_none {k : SV} : ∀ {xs : List SV}, lk k xs = none → ∀ x ∈ xs, keyV x ≠ k
 | [], _, x, hx => by cases hx
 | y :: xs, h, x, hx => by
  rw [lk_cons] at h
  cases hl : lk k xs with
  | some z => rw [hl] at h; cases h
  | none =>
   rw [hl] at h
   cases hd : dec (keyV y = k) with
   | true => rw [hd] at h; cases h
   | false =>
    rcases List.mem_cons.1 hx with rfl | hx
    · intro e; rw [dec_iff.2 e] at hd; cases hd
    · exact lk_none hl x hx
theorem lk_nodup {xs : List SV} (hn : (xs.map keyV).Nodup) {k x : SV} : lk k xs = some x ↔ x ∈ xs ∧ keyV x = k := by
 refine ⟨lk_some, fun ⟨hx, hk⟩ => ?_⟩
 cases hl : lk k xs with
 | none => exact absurd hk (lk_none hl x hx)
 | some y =>
  obtain ⟨hy, hky⟩ := lk_some hl
  have hp := List.pairwise_map.1 hn
  have key : ∀ (l : List SV), l.Pairwise (fun a b => keyV a ≠ keyV b) → x ∈ l → y ∈ l → keyV x = keyV y → y = x := by
   intro l hl hx hy he
   induction l with
   | nil => cases hx
   | cons a l ih =>
    obtain ⟨h1, h2⟩ := List.pairwise_cons.1 hl
    rcases List.mem_cons.1 hx with ex | hx'
    · rcases List.mem_cons.1 hy with ey | hy'
      · rw [ex, ey]
      · rw [ex] at he; exact absurd he (h1 y hy')
    · rcases List.mem_cons.1 hy with ey | hy'
      · rw [ey] at he; exact absurd he.symm (h1 x hx')
      · exact ih h2 hx' hy'
  rw [key xs hp hx hy (hk.trans hky.symm)]
/- In order. -/
def Srt (l : List SV) : Prop := l.Pairwise fun a b => cf (keyV a) (keyV b) < 0
theorem srt_nodup {l : List SV} (h : Srt l) : (l.map keyV).Nodup := by
 refine List.pairwise_map.2 (h.imp fun {a b} hab e => ?_)
 rw [e, cf_self] at hab
 omega
theorem srt_ext {l m : List SV} (hl : Srt l) (hm : Srt m) (h : ∀ z, z ∈ l ↔ z ∈ m) : l = m := by
 have nl : l.Nodup := List.Pairwise.of_map keyV (fun a b h e => h (congrArg _ e)) (srt_nodup hl)
 have nm : m.Nodup := List.Pairwise.of_map keyV (fun a b h e => h (congrArg _ e)) (srt_nodup hm)
 refine List.Perm.eq_of_pairwise (le := fun a b => cf (keyV a) (keyV b) < 0) (fun a b _ _ h1 h2 => ?_) hl hm ((List.perm_ext_iff_of_nodup nl nm).2 h)
 have := cf_anti (keyV a) (keyV b)
 omega
theorem insR_nil (r : SV) : insR r [] = [r] := rfl
theorem insR_cons (r a : SV) (l : List SV) : insR r (a :: l) = bif decide (cR a r < 0) then a :: insR r l else bif cR a r == 0 then r :: l else r :: a :: l := by
 by_cases hc : cR a r < 0
 · have hp : posL r (a :: l) = posL r l + 1 := by simp [posL, hc]
   rw [decide_eq_true hc, cond_true]
   unfold insR
   rw [hp]
   simp only [List.getD_cons_succ, List.length_cons, setN, List.take_succ_cons, List.drop_succ_cons, List.cons_append]
   rw [show decide (posL r l + 1 < l.length + 1) = decide (posL r l < l.length) by simp]
   cases decide (posL r l < l.length) && (cR (l.getD (posL r l) .junk) r == 0) <;> rfl
 · have hp : posL r (a :: l) = 0 := by simp [posL, hc]
   rw [decide_eq_false hc, cond_false]
   unfold insR
   rw [hp]
   simp only [List.getD_cons_zero, List.length_cons, setN, List.take_zero, List.drop_zero, List.nil_append, List.cons_append]
   rw [show decide (0 < l.length + 1) = true by simp, Bool.true_and]
theorem insR_srt {r : SV} : ∀ {l : List SV}, Srt l → Srt (insR r l) ∧ ∀ z, z ∈ insR r l ↔ z = r ∨ (z ∈ l ∧ keyV z ≠ keyV r)
 | [], _ => ⟨by rw [insR_nil]; exact List.pairwise_singleton _ _, fun z => by rw [insR_nil]; simp⟩
 | a :: l, h => by
  obtain ⟨h1, h2⟩ := List.pairwise_cons.1 h
  obtain ⟨i1, i2⟩ := insR_srt (r := r) h2
  rw [insR_cons, cR_key]
  have an := cf_anti (keyV a) (keyV r)
  by_cases c1 : cf (keyV a) (keyV r) < 0
  · rw [decide_eq_true c1, cond_true]
    refine ⟨List.pairwise_cons.2 ⟨fun z hz => ?_, i1⟩, fun z => ?_⟩
    · rcases (i2 z).1 hz with rfl | hz
      · exact c1
      · exact h1 z hz.1
    · have hak : keyV a ≠ keyV r := fun e => by rw [e, cf_self] at c1; omega
      rw [List.mem_cons, i2, List.mem_cons]
      constructor
      · rintro (rfl | rfl | ⟨hz, hk⟩)
        · exact .inr ⟨.inl rfl, hak⟩
        · exact .inl rfl
        · exact .inr ⟨.inr hz, hk⟩
      · rintro (rfl | ⟨rfl | hz, hk⟩)
        · exact .inr (.inl rfl)
        · exact .inl rfl
        · exact .inr (.inr ⟨hz, hk⟩)
  · rw [decide_eq_false c1, cond_false]
    by_cases c2 : cf (keyV a) (keyV r) = 0
    · have hk := cf_keyV.1 c2
      rw [show (cf (keyV a) (keyV r) == 0) = true by simp [c2], cond_true]
      refine ⟨List.pairwise_cons.2 ⟨fun z hz => by rw [← hk]; exact h1 z hz, h2⟩, fun z => ?_⟩
      rw [List.mem_cons, List.mem_cons]
      constructor
      · rintro (rfl | hz)
        · exact .inl rfl
        · refine .inr ⟨.inr hz, fun e => ?_⟩
          have := h1 z hz
          rw [hk, e, cf_self] at this
          omega
      · rintro (rfl | ⟨rfl | hz, hk2⟩)
        · exact .inl rfl
        · exact absurd hk hk2
        · exact .inr hz
    · have c3 : cf (keyV r) (keyV a) < 0 := by omega
      rw [show (cf (keyV a) (keyV r) == 0) = false by simp [c2], cond_false]
      have hlt : ∀ z ∈ a :: l, cf (keyV r) (keyV z) < 0 := by
       intro z hz
       rcases List.mem_cons.1 hz with rfl | hz
       · exact c3
       · exact cf_trans c3 (h1 z hz)
      refine ⟨List.pairwise_cons.2 ⟨hlt, h⟩, fun z => ?_⟩
      rw [List.mem_cons (a := z) (b := r)]
      constructor
      · rintro (rfl | hz)
        · exact .inl rfl
        · refine .inr ⟨hz, fun e => ?_⟩
          have := hlt z hz
          rw [e, cf_self] at this
          omega
      · rintro (rfl | ⟨hz, -⟩)
        · exact .inl rfl
        · exact .inr hz
theorem woF_spec : ∀ (xs acc : List SV), Srt acc → Srt (woF xs acc) ∧ ∀ z, z ∈ woF xs acc ↔ (∃ x, lk (keyV z) xs = some x ∧ z = zR x) ∨ (z ∈ acc ∧ lk (keyV z) xs = none)
 | [], acc, h => ⟨h, fun z => ⟨fun hz => .inr ⟨hz, rfl⟩, fun hz => by
   rcases hz with ⟨x, h1, -⟩ | ⟨h1, -⟩
   · cases h1
   · exact h1⟩⟩
 | x :: xs, acc, h => by
  obtain ⟨i1, i2⟩ := insR_srt (r := zR x) h
  obtain ⟨a1, a2⟩ := woF_spec xs (insR (zR x) acc) i1
  refine ⟨a1, fun z => ?_⟩
  show z ∈ woF xs (insR (zR x) acc) ↔ _
  rw [a2, i2, lk_cons, keyV_z]
  cases hl : lk (keyV z) xs with
  | some y => simp
  | none =>
   simp only [Option.none_or]
   cases hd : dec (keyV x = keyV z) with
   | true =>
    have e := dec_iff.1 hd
    simp [e]
   | false =>
    have e : keyV x ≠ keyV z := fun e => by rw [dec_iff.2 e] at hd; cases hd
    simp only [cond_false, reduceCtorEq, false_and, exists_false, false_or, and_true]
    constructor
    · rintro (rfl | ⟨h1, -⟩)
      · exact absurd (keyV_z x).symm e
      · exact h1
    · intro h1; exact .inr ⟨h1, fun e2 => e e2.symm⟩
theorem wol_srt (xs : List SV) : Srt (wol xs) := (woF_spec xs [] List.Pairwise.nil).1
theorem wol_mem {xs : List SV} {z : SV} : z ∈ wol xs ↔ ∃ x, lk (keyV z) xs = some x ∧ z = zR x := by
 rw [show wol xs = woF xs [] from rfl, (woF_spec xs [] List.Pairwise.nil).2]
 simp
theorem woF_len : ∀ (xs acc : List SV), (woF xs acc).length ≤ acc.length + xs.length
 | [], acc => by simp [woF]
 | x :: xs, acc => by
  have h1 := woF_len xs (insR (zR x) acc)
  have h2 := insR_len (zR x) acc
  show (woF xs (insR (zR x) acc)).length ≤ _
  rw [List.length_cons]; omega
theorem wol_len (xs : List SV) : (wol xs).length ≤ xs.length := by
 have := woF_len xs []
 rw [List.length_nil, Nat.zero_add] at this; exact this
end Go.Proofs.Ytkbbiaobohlogaa
