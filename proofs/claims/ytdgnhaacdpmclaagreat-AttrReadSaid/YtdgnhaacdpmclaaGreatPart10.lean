/- The reference reads attributes: numbers, lists. -/
import Derived.Test.YtdgnhaacdpmclaaGreatPart9
namespace Go.Proofs.YtdgnhaacdpmclaaGreat
open Go.Am
set_option maxRecDepth 100000
def ytK (p : List SV) (a : Int) : Nat → Int → Int → (Int → CTree) → CTree
 | 0, _, x, K => K x
 | k + 1, i, x, K => bif inB (w64 (a + i)) p.length then ytK p a k (w64 (i + 1)) (accR x (dg p (w64 (a + i)).toNat)) K else .fail
theorem yt_t1 (p : List SV) (a : Int) : opn (tbl []) Tryz.f26 [.psl 5 p, .int .i64 a, .int .i64 1] [] = ytK p a 1 0 0 (fun x => .ret (.int .u64 x) []) := by kernel_rfl
theorem yt_t2 (p : List SV) (a : Int) : opn (tbl []) Tryz.f26 [.psl 5 p, .int .i64 a, .int .i64 2] [] = ytK p a 2 0 0 (fun x => .ret (.int .u64 x) []) := by kernel_rfl
theorem yt_t3 (p : List SV) (a : Int) : opn (tbl []) Tryz.f26 [.psl 5 p, .int .i64 a, .int .i64 3] [] = ytK p a 3 0 0 (fun x => .ret (.int .u64 x) []) := by kernel_rfl
theorem yt_t4 (p : List SV) (a : Int) : opn (tbl []) Tryz.f26 [.psl 5 p, .int .i64 a, .int .i64 4] [] = ytK p a 4 0 0 (fun x => .ret (.int .u64 x) []) := by kernel_rfl
theorem ytK_ok {p : List SV} {a : Nat} (hp : okBy p) (hl : p.length ≤ 1000000) (K : Int → CTree) : ∀ (k i : Nat), i + k ≤ 4 → a + (i + k) ≤ p.length → ytK p a k i (tkN p a i) K = K (tkN p a (i + k))
 | 0, i, _, _ => rfl
 | k + 1, i, h, h2 => by
  unfold ytK
  have w1 : w64 ((a : Int) + (i : Int)) = ((a + i : Nat) : Int) := by rw [show w64 ((a : Int) + (i : Int)) = (a : Int) + i from w64_id (by omega) (by omega)]; omega
  have w2 : w64 ((i : Int) + 1) = ((i + 1 : Nat) : Int) := by rw [show w64 ((i : Int) + 1) = (i : Int) + 1 from w64_id (by omega) (by omega)]; omega
  obtain ⟨q1, q2⟩ := tkN_rng hp a i
  obtain ⟨q3, q4⟩ := hp (a + i)
  have q5 : (256 : Int) ^ i ≤ 256 ^ 3 := by
   have : i ≤ 3 := by omega
   exact Int.ofNat_le.2 (Nat.pow_le_pow_right (by decide) this)
  have q6 : (256 : Int) ^ 3 = 16777216 := by decide
  rw [w1, w2, show inB ((a + i : Nat) : Int) p.length = true by unfold inB; simp; omega, cond_true, show (((a + i : Nat) : Int)).toNat = a + i from rfl, accR_eq (by omega) (by omega) q3 q4]
  have := ytK_ok (a := a) hp hl K k (i + 1) (by omega) (by omega)
  rw [tkN] at this
  rw [this, Nat.add_right_comm, Nat.add_assoc]
noncomputable def yt_s : CSumm := fun args H => match args, H with
 | [.psl 5 p, .int .i64 a, .int .i64 k], [] => .ite (dec (byl p ∧ p.length ≤ 1000000 ∧ 0 ≤ a ∧ a + k ≤ p.length ∧ (k = 1 ∨ k = 2 ∨ k = 3 ∨ k = 4))) (.ret (.int .u64 (tkN p a.toNat k.toNat)) []) .fail
 | _, _ => .fail
theorem yt_k : Known Tryz.prog 26 yt_s := (openKnown ok0 Tryz.func26 rfl).weak (by
 intro args H v ups h
 unfold yt_s at h
 split at h
 · rename_i p a k
   rw [crun_ite] at h
   cases hc : dec _ with
   | false => rw [hc] at h; cases h
   | true =>
    rw [hc, cond_true] at h
    obtain ⟨h1, h2, h3, h4, h5⟩ := dec_iff.1 hc
    obtain ⟨b, rfl⟩ := Int.eq_ofNat_of_zero_le h3
    have go : ∀ j : Nat, j ≤ 4 → (b : Int) + j ≤ p.length → ytK p b j 0 0 (fun x => .ret (.int .u64 x) []) = .ret (.int .u64 (tkN p b j)) [] := by
     intro j hj hb
     have := ytK_ok h1.ok h2 (a := b) (fun x => .ret (.int .u64 x) []) j 0 (by omega) (by omega)
     rw [Nat.zero_add] at this
     exact this
    rcases h5 with rfl | rfl | rfl | rfl
    · exact (congrArg crun ((yt_t1 p b).trans (go 1 (by omega) h4))).trans h
    · exact (congrArg crun ((yt_t2 p b).trans (go 2 (by omega) h4))).trans h
    · exact (congrArg crun ((yt_t3 p b).trans (go 3 (by omega) h4))).trans h
    · exact (congrArg crun ((yt_t4 p b).trans (go 4 (by omega) h4))).trans h
 · cases h)
noncomputable abbrev κli := openT Tryz.prog (tbl [(26, yt_s)]) 300 5
noncomputable abbrev ιli : Nat → Bool := fun g => inl (tbl [(26, yt_s)]) g && hasBody Tryz.prog g
theorem liOk : KOk Tryz.prog κli := openT_ok noNumTry mixTry (tbl_cons yt_k ok0) 300 5
noncomputable def body94 : Code := Tryz.f94.body.getD .skip
noncomputable def c94 : Code := (loopAt 5 body94).getD .skip
def liOk' (p l : List SV) (m : Nat) (i : Int) : Prop := byl p ∧ p.length ≤ 4000 ∧ m = l.length ∧ 0 ≤ i ∧ i ≤ p.length ∧ (p.length - i.toNat) % 4 = 0 ∧ l.length + (p.length - i.toNat) / 4 ≤ 2000
noncomputable def li_s : CSumm := fun args H => match args, H with
 | [.psl 5 p, .qs 0 1 0 m, .int .i64 i], [(0, .seq 26 l)] => .ite (dec (liOk' p l m i)) (.ret (.tup [.int .i64 2, .qs 1 1 0 (l.length + (p.length - i.toNat) / 4)]) [(0, none), (1, some (.seq 26 (l ++ wd p i.toNat ((p.length - i.toNat) / 4))))]) .fail
 | [.psl 5 p, .nils, .int .i64 i], [] => .ite (dec (liOk' p [] 0 i ∧ i < p.length)) (.ret (.tup [.int .i64 2, .qs 0 1 0 ((p.length - i.toNat) / 4)]) [(0, some (.seq 26 (wd p i.toNat ((p.length - i.toNat) / 4))))]) .fail
 | _, _ => .fail
def liM : List SV → HpL → Nat
 | [.psl _ p, _, .int _ i], _ => p.length - i.toNat
 | _, _ => 0
noncomputable def e94 : LEnt := { ins := [0, 6, 7], outs := [6], keep := [], size := 38, code := c94, s := li_s }
noncomputable def liNa (N : Nat) (p l : List SV) (m : Nat) (i : Int) : CTree :=
 bif Nat.blt (p.length - i.toNat) N then bif dec (liOk' p l m i) then .ret (.tup [.int .i64 2, .qs 0 1 0 (l.length + (p.length - i.toNat) / 4)]) [(0, some (.seq 26 (l ++ wd p i.toNat ((p.length - i.toNat) / 4))))] else .fail else .fail
noncomputable def liNx (N : Nat) (p l : List SV) (m : Nat) (i : Int) : CTree :=
 bif Nat.blt (p.length - i.toNat) N then bif dec (liOk' p l m i) then .ret (.tup [.int .i64 2, .qs 1 1 0 (l.length + (p.length - i.toNat) / 4)]) [(0, none), (1, some (.seq 26 (l ++ wd p i.toNat ((p.length - i.toNat) / 4))))] else .fail else .fail
theorem li_t (N : Nat) (p l : List SV) (m : Nat) (i : Int) : loopOnce Tryz.prog κli ιli (ltab []) true 300 e94 { e94 with s := boundT liM li_s N } c94 [.psl 5 p, .qs 0 1 0 m, .int .i64 i] [(0, .seq 26 l)] =
 bif decide (i < p.length) then bif dec (byl p ∧ p.length ≤ 1000000 ∧ 0 ≤ i ∧ i + 4 ≤ p.length ∧ ((4 : Int) = 1 ∨ (4 : Int) = 2 ∨ (4 : Int) = 3 ∨ (4 : Int) = 4)) then bif decide (m = l.length) then bif decide (l.length + 1 ≤ 9223372036854775807) && decide ((l.length + 1) * 4 ≤ 140737488355328) then
  liNx N p (l ++ [.int .u32 (w3 (tkN p i.toNat 4))]) (l.length + 1) (w64 (i + 4)) else .fail else .fail else .fail
 else .ret (.tup [.int .i64 2, .qs 0 1 0 m]) [] := by kernel_rfl
theorem li_a (N : Nat) (p : List SV) (i : Int) : loopOnce Tryz.prog κli ιli (ltab []) true 300 e94 { e94 with s := boundT liM li_s N } c94 [.psl 5 p, .nils, .int .i64 i] [] =
 bif decide (i < p.length) then bif dec (byl p ∧ p.length ≤ 1000000 ∧ 0 ≤ i ∧ i + 4 ≤ p.length ∧ ((4 : Int) = 1 ∨ (4 : Int) = 2 ∨ (4 : Int) = 3 ∨ (4 : Int) = 4)) then
  liNa N p [.int .u32 (w3 (tkN p i.toNat 4))] 1 (w64 (i + 4)) else .fail
 else .ret (.tup [.int .i64 2, .nils]) [] := by kernel_rfl
theorem liH_ren {l : List SV} : Renamed [(0, .seq 26 l)] (.tup [.int .i64 2, .qs 0 1 0 l.length]) [] (.tup [.int .i64 2, .qs 1 1 0 l.length]) [(0, none), (1, some (.seq 26 l))] := by
 refine ⟨0, 1, by simp, by simp [namesS, namesL], fun x c hx => ?_, rfl, fun y => ?_⟩
 · have := HpL_get_some _ _ _ hx
   simp only [List.mem_singleton, Prod.mk.injEq] at this
   obtain ⟨_, rfl⟩ := this
   simp [namesC]
 · match y with
   | 0 => rfl
   | 1 => rfl
   | y + 2 =>
    simp only [updF, HpL.get, show ¬ (y + 2 = 1) by omega, show ¬ (y + 2 = 0) by omega, if_false, show Nat.beq 0 (y + 2) = false from nb_f (by omega), cond_false, Option.map_none]
theorem li_valid : ValidL Tryz.prog e94 := loop_valid2 (κ := κli) (ι := ιli) (T := ltab []) (sp := true) (fuel := 300) (c := c94) (μ := liM) liOk mixTry ltab_nil (show fillC (ltab []) c94 = c94 by kernel_rfl) (by
 intro N args H v' ups' hbt h
 unfold e94 li_s at h
 simp only [] at h
 split at h
 · rename_i p m i l
   rw [crun_ite] at h
   cases hc : dec _ with
   | false => rw [hc] at h; cases h
   | true =>
    rw [hc, cond_true] at h
    obtain ⟨h1, h2, h3, h4, h5, h6, h7⟩ := dec_iff.1 hc
    subst h3
    have hrd := li_t N p l l.length i
    have hN : Nat.blt (p.length - i.toNat) (N + 1) = true := hbt
    rw [Nat.blt_eq] at hN
    by_cases hlt : i < p.length
    · obtain ⟨q1, q2⟩ := tkN_rng h1.ok i.toNat 4
      have e4 : (i + 4).toNat = i.toNat + 4 := by omega
      have e5 : (p.length - i.toNat) / 4 = (p.length - (i.toNat + 4)) / 4 + 1 := by omega
      rw [decide_eq_true hlt, cond_true, dec_iff.2 ⟨h1, by omega, h4, by omega, by decide⟩, cond_true, decide_eq_true rfl, cond_true, decide_eq_true (show l.length + 1 ≤ 9223372036854775807 by omega), decide_eq_true (show (l.length + 1) * 4 ≤ 140737488355328 by omega), Bool.and_self, cond_true,
       w3_id q1 (Int.lt_of_lt_of_le q2 (by decide)), show w64 (i + 4) = i + 4 from w64_id (by omega) (by omega)] at hrd
      unfold liNx at hrd
      rw [e4, show Nat.blt (p.length - (i.toNat + 4)) N = true by rw [Nat.blt_eq]; omega, cond_true, dec_iff.2 ⟨h1, h2, by simp, by omega, by omega, by omega, by simp; omega⟩, cond_true] at hrd
      rw [e5, wd] at h
      rw [List.length_append, List.append_assoc, List.length_singleton, List.singleton_append, Nat.add_assoc, Nat.add_comm 1] at hrd
      cases h
      exact .inl ⟨_, congrArg crun hrd, fun x => rfl⟩
    · rw [decide_eq_false hlt, cond_false] at hrd
      cases h
      refine .inr ⟨_, _, congrArg crun hrd, ?_⟩
      rw [show (p.length - i.toNat) / 4 = 0 by omega]
      simp only [wd, List.append_nil, Nat.add_zero]
      exact liH_ren
 · rename_i p i
   rw [crun_ite] at h
   cases hc : dec _ with
   | false => rw [hc] at h; cases h
   | true =>
    rw [hc, cond_true] at h
    obtain ⟨⟨h1, h2, h3, h4, h5, h6, h7⟩, hlt⟩ := dec_iff.1 hc
    have hrd := li_a N p i
    have hN : Nat.blt (p.length - i.toNat) (N + 1) = true := hbt
    rw [Nat.blt_eq] at hN
    obtain ⟨q1, q2⟩ := tkN_rng h1.ok i.toNat 4
    have e4 : (i + 4).toNat = i.toNat + 4 := by omega
    have e5 : (p.length - i.toNat) / 4 = (p.length - (i.toNat + 4)) / 4 + 1 := by omega
    simp only [List.length_nil] at h7
    rw [decide_eq_true hlt, cond_true, dec_iff.2 ⟨h1, by omega, h4, by omega, by decide⟩, cond_true, w3_id q1 (Int.lt_of_lt_of_le q2 (by decide)), show w64 (i + 4) = i + 4 from w64_id (by omega) (by omega)] at hrd
    unfold liNa at hrd
    rw [e4, show Nat.blt (p.length - (i.toNat + 4)) N = true by rw [Nat.blt_eq]; omega, cond_true, dec_iff.2 ⟨h1, h2, rfl, by omega, by omega, by omega, by simp; omega⟩, cond_true] at hrd
    rw [e5, wd, Nat.add_comm _ 1] at h
    cases h
    exact .inl ⟨_, congrArg crun hrd, fun x => rfl⟩
 · cases h)
noncomputable abbrev T94 : LTab := ltab [("l", e94)]
noncomputable abbrev m94 : Code := markC [(5, "l")] body94
noncomputable def list_b : CSumm := bodyCL Tryz.prog κli ιli T94 true 300 Tryz.f94 m94
theorem list_k0 : Known Tryz.prog 94 list_b := ⟨⟨Tryz.f94, Tryz.func94, noNum_at noNumTry Tryz.func94, rfl⟩, bodyL_valid liOk mixTry (ltab_cons li_valid ltab_nil) Tryz.func94 (show Tryz.f94.body = some (fillC T94 m94) by kernel_rfl)⟩
def liB (L k : Int) : Bool := bif (bif L == 0 then true else L.tmod 4 != 0) then true else decide (L > w64 (4 * k))
def liT (L k : Int) (A B : CTree) : CTree := bif L == 0 then A else bif L.tmod 4 != 0 then A else bif decide (L > w64 (4 * k)) then A else B
theorem liT_eq (L k : Int) (A B : CTree) : liT L k A B = bif liB L k then A else B := by
 unfold liT liB
 cases L == 0 <;> cases L.tmod 4 != 0 <;> rfl
theorem list_t (p : List SV) (k : Int) : list_b [.psl 5 p, .int .i64 k] [] = liT p.length k (.ret (.tup [.nils, .bool false]) []) (
 bif dec (liOk' p [] 0 0 ∧ (0 : Int) < p.length) then .ret (.tup [.qs 0 1 0 ((p.length - (0 : Int).toNat) / 4), .bool true]) [(0, some (.seq 26 (wd p (0 : Int).toNat ((p.length - (0 : Int).toNat) / 4))))] else .fail) := by kernel_rfl
noncomputable def list_s : CSumm := fun args H => match args, H with
 | [.psl 5 p, .int .i64 k], [] => .ite (dec (byl p ∧ p.length ≤ 4000 ∧ 0 ≤ k ∧ k ≤ 1000)) (.ret (.tup [.psl 26 (bif liB p.length k then [] else wd p 0 (p.length / 4)), .bool (!(liB p.length k))]) []) .fail
 | _, _ => .fail
theorem list_k : Known Tryz.prog 94 list_s := known_told list_k0 (by
 intro args H v' ups' h
 unfold list_s at h
 split at h
 · rename_i p k
   rw [crun_ite] at h
   cases hc : dec _ with
   | false => rw [hc] at h; cases h
   | true =>
    rw [hc, cond_true] at h
    obtain ⟨h1, h2, h3, h4⟩ := dec_iff.1 hc
    have ht := list_t p k
    rw [liT_eq] at ht
    have hg : ∀ x c', HpL.get [] x ≠ some c' := fun x c' hx => by simp [HpL.get] at hx
    cases hb : liB p.length k with
    | true =>
     rw [hb] at ht h
     cases h
     exact ⟨_, _, congrArg crun ht, .inr ⟨.tup (.cons .nils .rfl'), fun x c' hx => ⟨c', hx, .rfl'⟩⟩⟩
    | false =>
     rw [hb] at ht h
     have hm : ((p.length : Int).tmod 4 != 0) = false := by
      unfold liB at hb
      cases hz : ((p.length : Int) == 0) <;> rw [hz] at hb
      · cases hy : ((p.length : Int).tmod 4 != 0) with
        | false => rfl
        | true => rw [hy] at hb; cases hb
      · cases hb
     have hm2 : p.length % 4 = 0 := by
      have : (p.length : Int).tmod 4 = 0 := by simpa using hm
      rw [Int.tmod_eq_emod_of_nonneg (by omega)] at this
      omega
     have hz : ((p.length : Int) == 0) = false := by
      unfold liB at hb
      cases hy : ((p.length : Int) == 0) with
      | false => rfl
      | true => rw [hy] at hb; cases hb
     have hz2 : p.length ≠ 0 := by intro e; rw [e] at hz; cases hz
     rw [cond_false, dec_iff.2 ⟨⟨h1, h2, rfl, by omega, by omega, by simpa using hm2, by simp; omega⟩, by omega⟩, cond_true] at ht
     cases h
     exact ⟨_, _, congrArg crun ht, .inl ⟨0, 26, wd p 0 (p.length / 4), by simp [updF], .tup (.cons (.qs (by simp [wd_len])) .rfl'), fun x c' hx => absurd hx (hg x c')⟩⟩
 · cases h)
end Go.Proofs.YtdgnhaacdpmclaaGreat
/- The reference reads attributes: its result, values that are numbers. -/
namespace Go.Proofs.YtdgnhaacdpmclaaGreat
open Go.Am
set_option maxRecDepth 100000
def mtL (f : Nat → Bool) : Nat → Nat → List SV
 | 0, _ => []
 | n + 1, i => .bool (f i) :: mtL f n (i + 1)
def rS (pb cb mb : Bool) (d : Ds) (f : Nat → Bool) : Chunk := .cells 83 (dL pb cb mb d ++ mtL f 256 0)
noncomputable abbrev κva := openT Tryz.prog (tbl [(26, yt_s), (94, list_s), (111, rread_s)]) 300 5
noncomputable abbrev ιva : Nat → Bool := fun g => inl (tbl [(26, yt_s), (94, list_s), (111, rread_s)]) g && hasBody Tryz.prog g
theorem vaOk : KOk Tryz.prog κva := openT_ok noNumTry mixTry (tbl_cons yt_k (tbl_cons list_k (tbl_cons rread_k ok0))) 300 5
noncomputable abbrev vB (T : LTab) (c : Code) : CSumm := bodyCL Tryz.prog κva ιva T true 300 Tryz.f77 c
noncomputable def body77 : Code := Tryz.f77.body.getD .skip
def vF : CTree := .ret (.bool false) []
def vT (pb cb mb : Bool) (f : Nat → Bool) (d : Ds) : CTree := .ret (.bool true) [(0, some (rS pb cb mb d f))]
def vAr (g : Int) (v : List SV) : List SV := [.ptr 0 0, .int .u8 g, .psl 5 v]
noncomputable def ytC (v : List SV) (a k : Int) (K : CTree) : CTree := bif dec (byl v ∧ v.length ≤ 1000000 ∧ 0 ≤ a ∧ a + k ≤ v.length ∧ (k = 1 ∨ k = 2 ∨ k = 3 ∨ k = 4)) then K else .fail
theorem v_1 (v : List SV) (pb cb mb : Bool) (d : Ds) (f : Nat → Bool) : vB (ltab []) body77 (vAr 1 v) [(0, rS pb cb mb d f)] =
 bif (v.length : Int) != 1 then vF else bif inB 0 v.length then bif decide (dg v 0 > 2) then vF else bif inB 0 v.length then vT pb cb mb f (d1 d (dg v 0)) else .fail else .fail := by cases pb <;> cases cb <;> cases mb <;> kernel_rfl
theorem v_4 (v : List SV) (pb cb mb : Bool) (d : Ds) (f : Nat → Bool) : vB (ltab []) body77 (vAr 4 v) [(0, rS pb cb mb d f)] =
 bif (v.length : Int) != 4 then vF else ytC v 0 4 (vT pb cb mb f (d4 d (tkN v 0 4))) := by cases pb <;> cases cb <;> cases mb <;> kernel_rfl
theorem v_5 (v : List SV) (pb cb mb : Bool) (d : Ds) (f : Nat → Bool) : vB (ltab []) body77 (vAr 5 v) [(0, rS pb cb mb d f)] =
 bif (v.length : Int) != 4 then vF else ytC v 0 4 (vT pb cb mb f (d5 d (tkN v 0 4))) := by cases pb <;> cases cb <;> cases mb <;> kernel_rfl
theorem v_9 (v : List SV) (pb cb mb : Bool) (d : Ds) (f : Nat → Bool) : vB (ltab []) body77 (vAr 9 v) [(0, rS pb cb mb d f)] =
 bif (v.length : Int) != 4 then vF else ytC v 0 4 (vT pb cb mb f (d9 d (tkN v 0 4))) := by cases pb <;> cases cb <;> cases mb <;> kernel_rfl
end Go.Proofs.YtdgnhaacdpmclaaGreat
/- The reference reads attributes: paths, routes, the tunnel. -/
namespace Go.Proofs.YtdgnhaacdpmclaaGreat
open Go.Am
set_option maxRecDepth 100000
def frm (v : List SV) (k : Int) : List SV := (v.drop k.toNat).take ((v.length : Int).toNat - k.toNat)
noncomputable def frC (v : List SV) (k : Int) (K : List SV → CTree) : CTree := bif decide (0 ≤ k) && decide (k ≤ (v.length : Int)) && decide ((v.length : Int) ≤ (v.length : Int)) then K (frm v k) else .fail
noncomputable def liC (p : List SV) (k : Int) (K : List SV → Bool → CTree) : CTree := bif dec (byl p ∧ p.length ≤ 4000 ∧ 0 ≤ k ∧ k ≤ 1000) then K (bif liB p.length k then [] else wd p 0 (p.length / 4)) (!(liB p.length k)) else .fail
theorem v_2 (v : List SV) (pb cb mb : Bool) (d : Ds) (f : Nat → Bool) : vB (ltab []) body77 (vAr 2 v) [(0, rS pb cb mb d f)] =
 bif (v.length : Int) == 0 then .ret (.bool true) [] else bif decide ((v.length : Int) < 2) then vF else bif inB 0 v.length then bif dg v 0 != 2 then vF else bif inB 1 v.length then
  bif w64 (4 * w64 (dg v 1)) != w64 ((v.length : Int) - 2) then vF else frC v 2 (fun p => liC p 32 (fun l b => .ret (.bool b) [(0, some (rS false cb mb { d with path := l } f))]))
  else .fail else .fail := by cases pb <;> cases cb <;> cases mb <;> kernel_rfl
def tuA (v : List SV) (L k : Int) (K : Bool → CTree) : CTree := bif (v.length : Int) == L then bif inB 1 v.length then K (dg v 1 == k) else .fail else K false
def tuY (v : List SV) (K : Bool → CTree) : CTree := bif inB 0 v.length then K (dg v 0 != 0) else .fail
def tuR (v : List SV) (a b : Bool) (K : Bool → CTree) : CTree := bif !a then (bif !b then K true else tuY v K) else tuY v K
theorem v_22 (v : List SV) (pb cb mb : Bool) (d : Ds) (f : Nat → Bool) : vB (ltab []) body77 (vAr 22 v) [(0, rS pb cb mb d f)] =
 tuA v 13 3 (fun a => tuA v 9 6 (fun b => tuR v a b (fun x => bif x then vF else bif inB 1 v.length then ytC v 2 3 (ytC v 5 4 (
  bif a then ytC v 9 4 (vT pb cb mb f (dT d (w64 (dg v 1)) (w3 (tkN v 2 3)) (w3 (tkN v 5 4)) (w3 (tkN v 9 4)))) else vT pb cb mb f (dT d (w64 (dg v 1)) (w3 (tkN v 2 3)) (w3 (tkN v 5 4)) 0))) else .fail))) := by cases pb <;> cases cb <;> cases mb <;> kernel_rfl
end Go.Proofs.YtdgnhaacdpmclaaGreat
/- The reference reads attributes: routes. -/
namespace Go.Proofs.YtdgnhaacdpmclaaGreat
open Go.Am
set_option maxRecDepth 100000
def famS : List UInt8 := [0, 25, 70]
def hd3 (v : List SV) : List UInt8 := ((v.drop (0 : Int).toNat).take ((3 : Int).toNat - (0 : Int).toNat)).map Am.byteOf
noncomputable def rrC (p : List SV) (K : CTree) : CTree := bif dec (byl p ∧ p.length ≤ 1000000) then K else .fail
theorem v_15 (v : List SV) (pb cb mb : Bool) (d : Ds) (f : Nat → Bool) : vB (ltab []) body77 (vAr 15 v) [(0, rS pb cb mb d f)] =
 bif decide ((v.length : Int) < 3) then vF else bif decide ((0 : Int) ≤ 0) && decide ((0 : Int) ≤ 3) && decide ((3 : Int) ≤ v.length) then bif !(hd3 v == famS) then vF else
  frC v 3 (fun p => rrC p (bif (bif rdE p != 0 then true else (bif (15 : Int) == 14 then (rdL p).length == 0 else false)) then vF else vT pb cb mb f { d with unr := rdL p }))
 else .fail := by cases pb <;> cases cb <;> cases mb <;> kernel_rfl
theorem v_14 (v : List SV) (pb cb mb : Bool) (d : Ds) (f : Nat → Bool) : vB (ltab []) body77 (vAr 14 v) [(0, rS pb cb mb d f)] =
 bif decide ((v.length : Int) < 3) then vF else bif decide ((0 : Int) ≤ 0) && decide ((0 : Int) ≤ 3) && decide ((3 : Int) ≤ v.length) then bif !(hd3 v == famS) then vF else
  frC v 3 (fun p => bif decide ((p.length : Int) < 6) then vF else bif inB 0 p.length then bif dg p 0 != 4 then vF else bif inB 5 p.length then bif dg p 5 != 0 then vF else
   ytC p 1 4 (frC p 6 (fun q => rrC q (bif (bif rdE q != 0 then true else (bif (14 : Int) == 14 then ((rdL q).length : Int) == 0 else false)) then .ret (.bool false) [(0, some (rS pb cb mb (dNx d (tkN p 1 4)) f))] else vT pb cb mb f { dNx d (tkN p 1 4) with rch := rdL q })))
   else .fail else .fail)
 else .fail := by cases pb <;> cases cb <;> cases mb <;> kernel_rfl
end Go.Proofs.YtdgnhaacdpmclaaGreat
/- The reference reads attributes: the loop over clusters. -/
namespace Go.Proofs.YtdgnhaacdpmclaaGreat
open Go.Am
set_option maxRecDepth 100000
def rSx (p c m : SV) (d : Ds) (f : Nat → Bool) : Chunk := .cells 83 ([.int .i64 d.ori, p, .int .u32 d.nx, .bool d.hm, .int .u32 d.med, .bool d.hp, .int .u32 d.prf, .bool d.ho, .int .u32 d.orr, c, m, .int .i64 d.tk, .int .u32 d.tl, .int .u32 d.tr, .int .u32 d.tg, .psl 49 d.rch, .psl 49 d.unr] ++ mtL f 256 0)
def mtF (l : List SV) (i : Nat) : Bool := asB (l.getD i .junk)
def yP : List SV → Option (Bool × Bool × Bool × Ds × (Nat → Bool))
 | .int .i64 ori :: p :: .int .u32 nx :: .bool hm :: .int .u32 med :: .bool hp :: .int .u32 prf :: .bool ho :: .int .u32 orr :: c :: m :: .int .i64 tk :: .int .u32 tl :: .int .u32 tr :: .int .u32 tg :: .psl 49 rch :: .psl 49 unr :: l =>
  some (bsOf p, bsOf c, bsOf m, ⟨ori, nx, med, prf, orr, tk, tl, tr, tg, hm, hp, ho, asL p, asL c, asL m, rch, unr⟩, mtF l)
 | _ => none
def n32 (x : SV) : SV := .int .u32 (asI x)
def wv (v : List SV) (i : Int) : List SV := (v.drop i.toNat).map n32
def cv (v : List SV) (i : Int) : List SV := cw v i.toNat ((v.length - i.toNat) / 8)
noncomputable def c77yl : Code := (loopAt 23 body77).getD .skip
def ylX (q : SV) (b1 b2 : Bool) (d : Ds) (f : Nat → Bool) : Chunk := rSx (nz b1 26 d.path) q (nz b2 91 d.cm) d f
def ylA (b1 b2 : Bool) (d : Ds) (f : Nat → Bool) : HpL := [(0, ylX .nils b1 b2 d f)]
def ylB (b1 b2 : Bool) (d : Ds) (f : Nat → Bool) (j : Nat) (k : List SV) : HpL := [(0, ylX (.qs 1 1 0 j) b1 b2 d f), (1, .seq 27 k)]
def ylOk (v : List SV) (i : Int) (k : List SV) : Prop := True ∧ 0 ≤ i ∧ i ≤ v.length ∧ v.length ≤ 2000 ∧ k.length + (v.length - i.toNat) ≤ 4000
def ylN (v : List SV) (i : Int) : Nat := (v.length - i.toNat)
noncomputable def yl_s : CSumm := fun args H => match args, H with
 | [.ptr 0 0, .psl 26 v, .int .i64 i], [(0, .cells 83 cs)] =>
  match yP cs with
  | some (b1, _, b2, d, f) => .ite (decide (i < v.length)) (.ite (dec (H = ylA b1 b2 d f ∧ ylOk v i [])) (.ret (.tup [.int .i64 3]) [(0, some (ylX (.qs 1 1 0 (ylN v i)) b1 b2 d f)), (1, some (.seq 27 (wv v i)))]) .fail) (.ite (dec (H = ylA b1 b2 d f)) (.ret (.tup [.int .i64 3]) []) .fail)
  | none => .fail
 | [.ptr 0 0, .psl 26 v, .int .i64 i], [(0, .cells 83 cs), (1, .seq 27 k)] =>
  match yP cs with
  | some (b1, _, b2, d, f) => .ite (dec (H = ylB b1 b2 d f k.length k ∧ ylOk v i k)) (.ret (.tup [.int .i64 3]) [(0, some (ylX (.qs 2 1 0 (k.length + ylN v i)) b1 b2 d f)), (1, none), (2, some (.seq 27 (k ++ wv v i)))]) .fail
  | none => .fail
 | _, _ => .fail
def ylM : List SV → HpL → Nat
 | [_, .psl _ v, .int _ i], _ => v.length - i.toNat
 | _, _ => 0
noncomputable def e77yl : LEnt := { ins := [0, 7, 9], outs := [], keep := [8], size := 160, code := c77yl, s := yl_s }
noncomputable def ylNx (N q : Nat) (v : List SV) (b1 b2 : Bool) (d : Ds) (f : Nat → Bool) (i : Int) (j : Nat) (k : List SV) (K : Chunk → List SV → CTree) : CTree :=
 bif Nat.blt (v.length - i.toNat) N then bif dec (ylB b1 b2 d f j k = ylB b1 b2 d f k.length k ∧ ylOk v i k) then
  K (ylX (.qs q 1 0 (k.length + ylN v i)) b1 b2 d f) (k ++ wv v i) else .fail else .fail
def ylEl (v : List SV) (i : Int) (K : SV → CTree) : CTree := bif inB i v.length then K (n32 (v.getD i.toNat .junk)) else .fail
theorem yl_a (N : Nat) (v : List SV) (b1 b2 : Bool) (d : Ds) (f : Nat → Bool) (i : Int) : loopOnce Tryz.prog κva ιva (ltab []) true 300 e77yl { e77yl with s := boundT ylM yl_s N } c77yl [.ptr 0 0, .psl 26 v, .int .i64 i] (ylA b1 b2 d f) =
 bif decide (i < v.length) then ylEl v i (fun x => ylNx N 1 v b1 b2 d f (w64 (i + 1)) 1 [x] (fun c k' => .ret (.tup [.int .i64 3]) [(0, some c), (1, some (.seq 27 k'))]))
 else .ret (.tup [.int .i64 3]) [] := by cases b1 <;> cases b2 <;> kernel_rfl
theorem yl_b (N : Nat) (v : List SV) (b1 b2 : Bool) (d : Ds) (f : Nat → Bool) (i : Int) (j : Nat) (k : List SV) : loopOnce Tryz.prog κva ιva (ltab []) true 300 e77yl { e77yl with s := boundT ylM yl_s N } c77yl [.ptr 0 0, .psl 26 v, .int .i64 i] (ylB b1 b2 d f j k) =
 bif decide (i < v.length) then ylEl v i (fun x => bif decide (j = k.length) then bif decide (k.length + 1 ≤ 9223372036854775807) && decide ((k.length + 1) * 4 ≤ 140737488355328) then ylNx N 2 v b1 b2 d f (w64 (i + 1)) (k.length + 1) (k ++ [x]) (fun c k' => .ret (.tup [.int .i64 3]) [(0, some c), (1, none), (2, some (.seq 27 k'))])
  else .fail else .fail)
 else .ret (.tup [.int .i64 3]) [] := by cases b1 <;> cases b2 <;> kernel_rfl
end Go.Proofs.YtdgnhaacdpmclaaGreat
/- The reference reads attributes: the loop over communities. -/
namespace Go.Proofs.YtdgnhaacdpmclaaGreat
open Go.Am
set_option maxRecDepth 100000
noncomputable def c77ym : Code := (loopAt 33 body77).getD .skip
def ymX (q : SV) (b1 b2 : Bool) (d : Ds) (f : Nat → Bool) : Chunk := rSx (nz b1 26 d.path) (nz b2 27 d.cl) q d f
def ymA (b1 b2 : Bool) (d : Ds) (f : Nat → Bool) : HpL := [(0, ymX .nils b1 b2 d f)]
def ymB (b1 b2 : Bool) (d : Ds) (f : Nat → Bool) (j : Nat) (k : List SV) : HpL := [(0, ymX (.qs 1 8 0 j) b1 b2 d f), (1, .seq 91 k)]
def ymOk (v : List SV) (i : Int) (k : List SV) : Prop := (v.length - i.toNat) % 8 = 0 ∧ 0 ≤ i ∧ i ≤ v.length ∧ v.length ≤ 2000 ∧ k.length + ((v.length - i.toNat) / 8) ≤ 4000
def ymN (v : List SV) (i : Int) : Nat := ((v.length - i.toNat) / 8)
noncomputable def ym_s : CSumm := fun args H => match args, H with
 | [.ptr 0 0, .psl 5 v, .int .i64 i], [(0, .cells 83 cs)] =>
  match yP cs with
  | some (b1, b2, _, d, f) => .ite (decide (i < v.length)) (.ite (dec (H = ymA b1 b2 d f ∧ ymOk v i [])) (.ret (.tup [.int .i64 5]) [(0, some (ymX (.qs 1 8 0 (ymN v i)) b1 b2 d f)), (1, some (.seq 91 (cv v i)))]) .fail) (.ite (dec (H = ymA b1 b2 d f)) (.ret (.tup [.int .i64 5]) []) .fail)
  | none => .fail
 | [.ptr 0 0, .psl 5 v, .int .i64 i], [(0, .cells 83 cs), (1, .seq 91 k)] =>
  match yP cs with
  | some (b1, b2, _, d, f) => .ite (dec (H = ymB b1 b2 d f k.length k ∧ ymOk v i k)) (.ret (.tup [.int .i64 5]) [(0, some (ymX (.qs 2 8 0 (k.length + ymN v i)) b1 b2 d f)), (1, none), (2, some (.seq 91 (k ++ cv v i)))]) .fail
  | none => .fail
 | _, _ => .fail
def ymM : List SV → HpL → Nat
 | [_, .psl _ v, .int _ i], _ => v.length - i.toNat
 | _, _ => 0
noncomputable def e77ym : LEnt := { ins := [0, 2, 10], outs := [], keep := [8], size := 160, code := c77ym, s := ym_s }
noncomputable def ymNx (N q : Nat) (v : List SV) (b1 b2 : Bool) (d : Ds) (f : Nat → Bool) (i : Int) (j : Nat) (k : List SV) (K : Chunk → List SV → CTree) : CTree :=
 bif Nat.blt (v.length - i.toNat) N then bif dec (ymB b1 b2 d f j k = ymB b1 b2 d f k.length k ∧ ymOk v i k) then
  K (ymX (.qs q 8 0 (k.length + ymN v i)) b1 b2 d f) (k ++ cv v i) else .fail else .fail
def ymEl (v : List SV) (i : Int) (K : SV → CTree) : CTree := bif decide (0 ≤ i) && decide (i ≤ w64 (i + 8)) && decide (w64 (i + 8) ≤ (v.length : Int)) then bif decide (8 ≤ ((v.drop i.toNat).take ((w64 (i + 8)).toNat - i.toNat)).length) then K (.agg (bvals ((v.drop i.toNat).take ((w64 (i + 8)).toNat - i.toNat)) 0 8)) else .fail else .fail
theorem ym_a (N : Nat) (v : List SV) (b1 b2 : Bool) (d : Ds) (f : Nat → Bool) (i : Int) : loopOnce Tryz.prog κva ιva (ltab []) true 300 e77ym { e77ym with s := boundT ymM ym_s N } c77ym [.ptr 0 0, .psl 5 v, .int .i64 i] (ymA b1 b2 d f) =
 bif decide (i < v.length) then ymEl v i (fun x => ymNx N 1 v b1 b2 d f (w64 (i + 8)) 1 [x] (fun c k' => .ret (.tup [.int .i64 5]) [(0, some c), (1, some (.seq 91 k'))]))
 else .ret (.tup [.int .i64 5]) [] := by cases b1 <;> cases b2 <;> kernel_rfl
theorem ym_b (N : Nat) (v : List SV) (b1 b2 : Bool) (d : Ds) (f : Nat → Bool) (i : Int) (j : Nat) (k : List SV) : loopOnce Tryz.prog κva ιva (ltab []) true 300 e77ym { e77ym with s := boundT ymM ym_s N } c77ym [.ptr 0 0, .psl 5 v, .int .i64 i] (ymB b1 b2 d f j k) =
 bif decide (i < v.length) then ymEl v i (fun x => bif decide (j = k.length) then bif decide (k.length + 1 ≤ 9223372036854775807) && decide ((k.length + 1) * 8 ≤ 140737488355328) then ymNx N 2 v b1 b2 d f (w64 (i + 8)) (k.length + 1) (k ++ [x]) (fun c k' => .ret (.tup [.int .i64 5]) [(0, some c), (1, none), (2, some (.seq 91 k'))])
  else .fail else .fail)
 else .ret (.tup [.int .i64 5]) [] := by cases b1 <;> cases b2 <;> kernel_rfl
end Go.Proofs.YtdgnhaacdpmclaaGreat
/- The reference reads attributes: the loop over clusters, known. -/
namespace Go.Proofs.YtdgnhaacdpmclaaGreat
open Go.Am
set_option maxRecDepth 100000
theorem names_yl : ∀ (f : Nat → Bool) (n i : Nat), namesL (mtL f n i) = []
 | _, 0, _ => rfl
 | f, n + 1, i => by rw [mtL]; show namesS _ ++ namesL _ = _; rw [names_yl f n (i + 1)]; rfl
theorem namesA_yl : ∀ (a b : List SV), namesL (a ++ b) = namesL a ++ namesL b
 | [], b => rfl
 | x :: a, b => by rw [List.cons_append, namesL, namesL, namesA_yl a b, List.append_assoc]
theorem ren_yl (g : Nat → Nat) : ∀ (f : Nat → Bool) (n i : Nat), renL g (mtL f n i) = mtL f n i
 | _, 0, _ => rfl
 | f, n + 1, i => by rw [mtL]; show renS g _ :: renL g _ = _; rw [ren_yl g f n (i + 1)]; rfl
theorem renA_yl (g : Nat → Nat) : ∀ (a b : List SV), renL g (a ++ b) = renL g a ++ renL g b
 | [], b => rfl
 | x :: a, b => by rw [List.cons_append, renL, renL, renA_yl g a b, List.cons_append]
theorem ylB_no {b1 b2 : Bool} {d : Ds} {f : Nat → Bool} {j : Nat} {k : List SV} : ∀ y c, (ylB b1 b2 d f j k).get y = some c → 2 ∉ namesC c := by
 intro y c hx
 have := HpL_get_some _ _ _ hx
 simp only [ylB, List.mem_cons, Prod.mk.injEq, List.not_mem_nil, or_false] at this
 rcases this with ⟨_, rfl⟩ | ⟨_, rfl⟩
 · unfold ylX rSx; rw [namesC, namesA_yl, names_yl]; cases b1 <;> cases b2 <;> simp [namesL, namesS, nz]
 · simp [namesC]
theorem ylB_ren {b1 b2 : Bool} {d : Ds} {f : Nat → Bool} {j : Nat} {k : List SV} : Renamed (ylB b1 b2 d f j k) (.tup [.int .i64 3]) [] (.tup [.int .i64 3]) [(0, some (ylX (.qs 2 1 0 j) b1 b2 d f)), (1, none), (2, some (.seq 27 k))] := by
 refine ⟨1, 2, by simp [ylB], by simp [namesS, namesL], ylB_no, rfl, fun y => ?_⟩
 match y with
 | 0 =>
  show some (ylX (.qs 2 1 0 j) b1 b2 d f) = some (renC (sw 1 2) (ylX (.qs 1 1 0 j) b1 b2 d f))
  unfold ylX rSx; rw [renC, renA_yl, ren_yl]; cases b1 <;> cases b2 <;> rfl
 | 1 => rfl
 | 2 => rfl
 | y + 3 =>
  have h2 : ∀ k, k < 3 → Nat.beq k (y + 3) = false := fun k hk => nb_f (by omega)
  have h1 : ∀ k, k < 3 → ¬ (y + 3 = k) := fun k hk => by omega
  simp only [updF, ylB, HpL.get, h1 2 (by omega), h1 1 (by omega), h1 0 (by omega), if_false, h2 0 (by omega), h2 1 (by omega), cond_false, Option.map_none]
theorem ylEl_ok {v k : List SV} {i : Int} (h : ylOk v i k) (hlt : i < v.length) {K : SV → CTree} : ylEl v i K = K (n32 (v.getD i.toNat .junk)) := by
 obtain ⟨h1, h2, h3, h4, h5⟩ := h
 unfold ylEl
 rw [show inB i v.length = true by unfold inB; simp; omega]; rfl
theorem yl_step {N : Nat} {v k : List SV} {i : Int} (h : ylOk v i k) (hlt : i < v.length) : w64 (i + 1) = i + 1 ∧ (v.length - i.toNat < N + 1 → v.length - (i + 1).toNat < N) ∧ (∀ k' : List SV, k'.length = k.length + 1 → ylOk v (i + 1) k') ∧ wv v i = n32 (v.getD i.toNat .junk) :: wv v (i + 1) ∧ ylN v i = ylN v (i + 1) + 1 := by
 obtain ⟨h1, h2, h3, h4, h5⟩ := h
 refine ⟨w64_id (by omega) (by omega), fun _ => by omega, fun k' hk => ⟨trivial, by omega, by omega, h4, by omega⟩, ?_, by unfold ylN; omega⟩
 unfold wv
 rw [show (i + 1).toNat = i.toNat + 1 by omega, List.drop_eq_getElem_cons (show i.toNat < v.length by omega), List.map_cons, List.getD_eq_getElem?_getD, List.getElem?_eq_getElem (show i.toNat < v.length by omega)]
 rfl
theorem yl_fin {v k : List SV} {i : Int} (h : ylOk v i k) (hlt : ¬ i < v.length) : ylN v i = 0 ∧ wv v i = [] := by
 obtain ⟨h1, h2, h3, h4, h5⟩ := h
 refine ⟨by unfold ylN; omega, ?_⟩
 unfold wv
 rw [List.drop_eq_nil_of_le (by omega)]; rfl
theorem ylNx_ok {N q : Nat} {v : List SV} {b1 b2 : Bool} {d : Ds} {f : Nat → Bool} {i : Int} {j : Nat} {k : List SV} (hN : v.length - i.toNat < N) (hj : j = k.length) (h : ylOk v i k) (K : Chunk → List SV → CTree) :
  ylNx N q v b1 b2 d f i j k K = K (ylX (.qs q 1 0 (k.length + ylN v i)) b1 b2 d f) (k ++ wv v i) := by
 unfold ylNx
 rw [show Nat.blt (v.length - i.toNat) N = true by rw [Nat.blt_eq]; exact hN, dec_iff.2 ⟨by subst hj; rfl, h⟩]
 rfl
theorem yl_valid : ValidL Tryz.prog e77yl := loop_valid2 (κ := κva) (ι := ιva) (T := ltab []) (sp := true) (fuel := 300) (c := c77yl) (μ := ylM) vaOk mixTry ltab_nil (show fillC (ltab []) c77yl = c77yl by kernel_rfl) (by
 intro N args H v' ups' hbt h
 unfold e77yl yl_s at h
 simp only [] at h
 split at h
 · rename_i v i cs
   split at h
   · rename_i y1 y2 y3 d f hd
     rw [crun_ite] at h
     have hrd := yl_a N v y1 y3 d f i
     by_cases hlt : i < v.length
     case neg =>
      rw [decide_eq_false hlt, cond_false, crun_ite] at h
      cases hc : dec _ with
      | false => rw [hc] at h; cases h
      | true =>
       rw [hc, cond_true] at h
       rw [decide_eq_false hlt, cond_false] at hrd
       rw [dec_iff.1 hc]
       exact .inl ⟨_, (congrArg crun hrd).trans h, fun x => rfl⟩
     rw [decide_eq_true hlt, cond_true, crun_ite] at h
     cases hc : dec _ with
     | false => rw [hc] at h; cases h
     | true =>
      rw [hc, cond_true] at h
      obtain ⟨hH, hp⟩ := dec_iff.1 hc
      rw [hH]
      have hN : Nat.blt (v.length - i.toNat) (N + 1) = true := hbt
      rw [Nat.blt_eq] at hN
      obtain ⟨q1, q2, q3, q4, q5⟩ := yl_step (N := N) hp hlt
      rw [decide_eq_true hlt, cond_true, ylEl_ok hp hlt, q1, ylNx_ok (j := 1) (k := [n32 (v.getD i.toNat .junk)]) (q2 hN) rfl (q3 [n32 (v.getD i.toNat .junk)] (by simp))] at hrd
      rw [q5, q4] at h
      cases h
      rw [show [n32 (v.getD i.toNat .junk)].length + ylN v (i + 1) = ylN v (i + 1) + 1 by simp; omega] at hrd
      exact .inl ⟨_, congrArg crun hrd, fun x => rfl⟩
   · cases h
 · rename_i v i cs k
   split at h
   · rename_i y1 y2 y3 d f hd
     rw [crun_ite] at h
     cases hc : dec _ with
     | false => rw [hc] at h; cases h
     | true =>
      rw [hc, cond_true] at h
      obtain ⟨hH, hp⟩ := dec_iff.1 hc
      rw [hH]
      have hrd := yl_b N v y1 y3 d f i k.length k
      have hN : Nat.blt (v.length - i.toNat) (N + 1) = true := hbt
      rw [Nat.blt_eq] at hN
      by_cases hlt : i < v.length
      · obtain ⟨q1, q2, q3, q4, q5⟩ := yl_step (N := N) hp hlt
        have hk : k.length ≤ 4000 := by have := hp.2.2.2.2; omega
        rw [decide_eq_true hlt, cond_true, ylEl_ok hp hlt, decide_eq_true rfl, cond_true, decide_eq_true (show k.length + 1 ≤ 9223372036854775807 by omega), decide_eq_true (show (k.length + 1) * 4 ≤ 140737488355328 by omega), Bool.and_self, cond_true, q1, ylNx_ok (j := k.length + 1) (k := k ++ [n32 (v.getD i.toNat .junk)]) (q2 hN) (by simp) (q3 (k ++ [n32 (v.getD i.toNat .junk)]) (by simp))] at hrd
        rw [q5, q4] at h
        cases h
        rw [List.length_append, List.append_assoc, List.length_singleton, List.singleton_append, Nat.add_assoc, Nat.add_comm 1] at hrd
        exact .inl ⟨_, congrArg crun hrd, fun x => rfl⟩
      · have hz : ylN v i = 0 ∧ wv v i = [] := yl_fin hp hlt
        rw [decide_eq_false hlt, cond_false] at hrd
        rw [hz.1, hz.2, Nat.add_zero, List.append_nil] at h
        cases h
        exact .inr ⟨_, _, congrArg crun hrd, ylB_ren⟩
   · cases h
 · cases h)
end Go.Proofs.YtdgnhaacdpmclaaGreat
/- The reference reads attributes: the loop over communities, known. -/
namespace Go.Proofs.YtdgnhaacdpmclaaGreat
open Go.Am
set_option maxRecDepth 100000
theorem names_ym : ∀ (f : Nat → Bool) (n i : Nat), namesL (mtL f n i) = []
 | _, 0, _ => rfl
 | f, n + 1, i => by rw [mtL]; show namesS _ ++ namesL _ = _; rw [names_ym f n (i + 1)]; rfl
theorem namesA_ym : ∀ (a b : List SV), namesL (a ++ b) = namesL a ++ namesL b
 | [], b => rfl
 | x :: a, b => by rw [List.cons_append, namesL, namesL, namesA_ym a b, List.append_assoc]
theorem ren_ym (g : Nat → Nat) : ∀ (f : Nat → Bool) (n i : Nat), renL g (mtL f n i) = mtL f n i
 | _, 0, _ => rfl
 | f, n + 1, i => by rw [mtL]; show renS g _ :: renL g _ = _; rw [ren_ym g f n (i + 1)]; rfl
theorem renA_ym (g : Nat → Nat) : ∀ (a b : List SV), renL g (a ++ b) = renL g a ++ renL g b
 | [], b => rfl
 | x :: a, b => by rw [List.cons_append, renL, renL, renA_ym g a b, List.cons_append]
theorem ymB_no {b1 b2 : Bool} {d : Ds} {f : Nat → Bool} {j : Nat} {k : List SV} : ∀ y c, (ymB b1 b2 d f j k).get y = some c → 2 ∉ namesC c := by
 intro y c hx
 have := HpL_get_some _ _ _ hx
 simp only [ymB, List.mem_cons, Prod.mk.injEq, List.not_mem_nil, or_false] at this
 rcases this with ⟨_, rfl⟩ | ⟨_, rfl⟩
 · unfold ymX rSx; rw [namesC, namesA_ym, names_ym]; cases b1 <;> cases b2 <;> simp [namesL, namesS, nz]
 · simp [namesC]
theorem ymB_ren {b1 b2 : Bool} {d : Ds} {f : Nat → Bool} {j : Nat} {k : List SV} : Renamed (ymB b1 b2 d f j k) (.tup [.int .i64 5]) [] (.tup [.int .i64 5]) [(0, some (ymX (.qs 2 8 0 j) b1 b2 d f)), (1, none), (2, some (.seq 91 k))] := by
 refine ⟨1, 2, by simp [ymB], by simp [namesS, namesL], ymB_no, rfl, fun y => ?_⟩
 match y with
 | 0 =>
  show some (ymX (.qs 2 8 0 j) b1 b2 d f) = some (renC (sw 1 2) (ymX (.qs 1 8 0 j) b1 b2 d f))
  unfold ymX rSx; rw [renC, renA_ym, ren_ym]; cases b1 <;> cases b2 <;> rfl
 | 1 => rfl
 | 2 => rfl
 | y + 3 =>
  have h2 : ∀ k, k < 3 → Nat.beq k (y + 3) = false := fun k hk => nb_f (by omega)
  have h1 : ∀ k, k < 3 → ¬ (y + 3 = k) := fun k hk => by omega
  simp only [updF, ymB, HpL.get, h1 2 (by omega), h1 1 (by omega), h1 0 (by omega), if_false, h2 0 (by omega), h2 1 (by omega), cond_false, Option.map_none]
theorem ym_sl {v : List SV} {i : Int} (h0 : 0 ≤ i) (h1 : v.length ≤ 2000) (h2 : i ≤ v.length) : (v.drop i.toNat).take ((w64 (i + 8)).toNat - i.toNat) = sl v i.toNat 8 := by
 rw [show w64 (i + 8) = i + 8 from w64_id (by omega) (by omega), show (i + 8).toNat - i.toNat = 8 by omega]; rfl
theorem ymEl_ok {v k : List SV} {i : Int} (h : ymOk v i k) (hlt : i < v.length) {K : SV → CTree} : ymEl v i K = K (.agg (bvals (sl v i.toNat 8) 0 8)) := by
 obtain ⟨h1, h2, h3, h4, h5⟩ := h
 unfold ymEl
 rw [ym_sl h2 h4 h3, show w64 (i + 8) = i + 8 from w64_id (by omega) (by omega), sl_len (by omega), decide_eq_true h2, decide_eq_true (show i ≤ i + 8 by omega), decide_eq_true (show i + 8 ≤ (v.length : Int) by omega), decide_eq_true (by decide)]
 rfl
theorem ym_step {N : Nat} {v k : List SV} {i : Int} (h : ymOk v i k) (hlt : i < v.length) : w64 (i + 8) = i + 8 ∧ (v.length - i.toNat < N + 1 → v.length - (i + 8).toNat < N) ∧ (∀ k' : List SV, k'.length = k.length + 1 → ymOk v (i + 8) k') ∧ cv v i = .agg (bvals (sl v i.toNat 8) 0 8) :: cv v (i + 8) ∧ ymN v i = ymN v (i + 8) + 1 := by
 obtain ⟨h1, h2, h3, h4, h5⟩ := h
 refine ⟨w64_id (by omega) (by omega), fun _ => by omega, fun k' hk => ⟨by omega, by omega, by omega, h4, by omega⟩, ?_, by unfold ymN; omega⟩
 unfold cv
 rw [show (v.length - i.toNat) / 8 = (v.length - (i + 8).toNat) / 8 + 1 by omega, cw, show (i + 8).toNat = i.toNat + 8 by omega]
theorem ym_fin {v k : List SV} {i : Int} (h : ymOk v i k) (hlt : ¬ i < v.length) : ymN v i = 0 ∧ cv v i = [] := by
 obtain ⟨h1, h2, h3, h4, h5⟩ := h
 refine ⟨by unfold ymN; omega, ?_⟩
 unfold cv
 rw [show (v.length - i.toNat) / 8 = 0 by omega]; rfl
theorem ymNx_ok {N q : Nat} {v : List SV} {b1 b2 : Bool} {d : Ds} {f : Nat → Bool} {i : Int} {j : Nat} {k : List SV} (hN : v.length - i.toNat < N) (hj : j = k.length) (h : ymOk v i k) (K : Chunk → List SV → CTree) :
  ymNx N q v b1 b2 d f i j k K = K (ymX (.qs q 8 0 (k.length + ymN v i)) b1 b2 d f) (k ++ cv v i) := by
 unfold ymNx
 rw [show Nat.blt (v.length - i.toNat) N = true by rw [Nat.blt_eq]; exact hN, dec_iff.2 ⟨by subst hj; rfl, h⟩]
 rfl
theorem ym_valid : ValidL Tryz.prog e77ym := loop_valid2 (κ := κva) (ι := ιva) (T := ltab []) (sp := true) (fuel := 300) (c := c77ym) (μ := ymM) vaOk mixTry ltab_nil (show fillC (ltab []) c77ym = c77ym by kernel_rfl) (by
 intro N args H v' ups' hbt h
 unfold e77ym ym_s at h
 simp only [] at h
 split at h
 · rename_i v i cs
   split at h
   · rename_i y1 y2 y3 d f hd
     rw [crun_ite] at h
     have hrd := ym_a N v y1 y2 d f i
     by_cases hlt : i < v.length
     case neg =>
      rw [decide_eq_false hlt, cond_false, crun_ite] at h
      cases hc : dec _ with
      | false => rw [hc] at h; cases h
      | true =>
       rw [hc, cond_true] at h
       rw [decide_eq_false hlt, cond_false] at hrd
       rw [dec_iff.1 hc]
       exact .inl ⟨_, (congrArg crun hrd).trans h, fun x => rfl⟩
     rw [decide_eq_true hlt, cond_true, crun_ite] at h
     cases hc : dec _ with
     | false => rw [hc] at h; cases h
     | true =>
      rw [hc, cond_true] at h
      obtain ⟨hH, hp⟩ := dec_iff.1 hc
      rw [hH]
      have hN : Nat.blt (v.length - i.toNat) (N + 1) = true := hbt
      rw [Nat.blt_eq] at hN
      obtain ⟨q1, q2, q3, q4, q5⟩ := ym_step (N := N) hp hlt
      rw [decide_eq_true hlt, cond_true, ymEl_ok hp hlt, q1, ymNx_ok (j := 1) (k := [SV.agg (bvals (sl v i.toNat 8) 0 8)]) (q2 hN) rfl (q3 [SV.agg (bvals (sl v i.toNat 8) 0 8)] (by simp))] at hrd
      rw [q5, q4] at h
      cases h
      rw [show [SV.agg (bvals (sl v i.toNat 8) 0 8)].length + ymN v (i + 8) = ymN v (i + 8) + 1 by simp; omega] at hrd
      exact .inl ⟨_, congrArg crun hrd, fun x => rfl⟩
   · cases h
 · rename_i v i cs k
   split at h
   · rename_i y1 y2 y3 d f hd
     rw [crun_ite] at h
     cases hc : dec _ with
     | false => rw [hc] at h; cases h
     | true =>
      rw [hc, cond_true] at h
      obtain ⟨hH, hp⟩ := dec_iff.1 hc
      rw [hH]
      have hrd := ym_b N v y1 y2 d f i k.length k
      have hN : Nat.blt (v.length - i.toNat) (N + 1) = true := hbt
      rw [Nat.blt_eq] at hN
      by_cases hlt : i < v.length
      · obtain ⟨q1, q2, q3, q4, q5⟩ := ym_step (N := N) hp hlt
        have hk : k.length ≤ 4000 := by have := hp.2.2.2.2; omega
        rw [decide_eq_true hlt, cond_true, ymEl_ok hp hlt, decide_eq_true rfl, cond_true, decide_eq_true (show k.length + 1 ≤ 9223372036854775807 by omega), decide_eq_true (show (k.length + 1) * 8 ≤ 140737488355328 by omega), Bool.and_self, cond_true, q1, ymNx_ok (j := k.length + 1) (k := k ++ [SV.agg (bvals (sl v i.toNat 8) 0 8)]) (q2 hN) (by simp) (q3 (k ++ [SV.agg (bvals (sl v i.toNat 8) 0 8)]) (by simp))] at hrd
        rw [q5, q4] at h
        cases h
        rw [List.length_append, List.append_assoc, List.length_singleton, List.singleton_append, Nat.add_assoc, Nat.add_comm 1] at hrd
        exact .inl ⟨_, congrArg crun hrd, fun x => rfl⟩
      · have hz : ymN v i = 0 ∧ cv v i = [] := ym_fin hp hlt
        rw [decide_eq_false hlt, cond_false] at hrd
        rw [hz.1, hz.2, Nat.add_zero, List.append_nil] at h
        cases h
        exact .inr ⟨_, _, congrArg crun hrd, ymB_ren⟩
   · cases h
 · cases h)
end Go.Proofs.YtdgnhaacdpmclaaGreat
/- The reference reads attributes: lists of identifiers and of communities. -/
namespace Go.Proofs.YtdgnhaacdpmclaaGreat
open Go.Am
set_option maxRecDepth 100000
noncomputable abbrev T77 : LTab := ltab [("c", e77yl), ("m", e77ym)]
noncomputable abbrev m77 : Code := markC [(23, "c"), (33, "m")] body77
noncomputable def ylL (l : List SV) (pb mb : Bool) (d : Ds) (f : Nat → Bool) (b : Bool) : CTree :=
 bif decide ((0 : Int) < l.length) then bif dec (ylA pb mb d f = ylA pb mb d (mtF (mtL f 256 0)) ∧ ylOk l 0 []) then .ret (.bool b) [(0, some (ylX (.qs 1 1 0 (ylN l 0)) pb mb d f)), (1, some (.seq 27 (wv l 0)))] else .fail
 else bif dec (ylA pb mb d f = ylA pb mb d (mtF (mtL f 256 0))) then .ret (.bool b) [] else .fail
theorem v_10 (v : List SV) (pb mb : Bool) (d : Ds) (f : Nat → Bool) : vB T77 m77 (vAr 10 v) [(0, rS pb true mb d f)] =
 liC v 16 (fun l b => ylL l pb mb d f b) := by cases pb <;> cases mb <;> kernel_rfl
noncomputable def ymL (v : List SV) (pb cb : Bool) (d : Ds) (f : Nat → Bool) : CTree :=
 bif decide ((0 : Int) < v.length) then bif dec (ymA pb cb d f = ymA pb cb d (mtF (mtL f 256 0)) ∧ ymOk v 0 []) then .ret (.bool true) [(0, some (ymX (.qs 1 8 0 (ymN v 0)) pb cb d f)), (1, some (.seq 91 (cv v 0)))] else .fail
 else bif dec (ymA pb cb d f = ymA pb cb d (mtF (mtL f 256 0))) then .ret (.bool true) [] else .fail
theorem v_16 (v : List SV) (pb cb : Bool) (d : Ds) (f : Nat → Bool) : vB T77 m77 (vAr 16 v) [(0, rS pb cb true d f)] =
 bif (v.length : Int) == 0 then vF else bif (v.length : Int).tmod 8 != 0 then vF else bif decide ((v.length : Int) > 512) then vF else ymL v pb cb d f := by cases pb <;> cases cb <;> kernel_rfl
end Go.Proofs.YtdgnhaacdpmclaaGreat
/- The reference reads attributes: what is a value, in the same words. -/
namespace Go.Proofs.YtdgnhaacdpmclaaGreat
open Go.Am
set_option maxRecDepth 100000
theorem frm_eq (v : List SV) (k : Nat) : frm v (k : Int) = v.drop k := by
 unfold frm
 exact List.take_of_length_le (by rw [List.length_drop]; simp)
theorem frC_ok {v : List SV} {k : Nat} (h : k ≤ v.length) (K : List SV → CTree) : frC v (k : Int) K = K (v.drop k) := by
 unfold frC
 rw [decide_eq_true (show (0 : Int) ≤ k by omega), decide_eq_true (show (k : Int) ≤ v.length by omega), decide_eq_true (Int.le_refl _), frm_eq]; rfl
theorem liB_n {n k : Nat} (hn : n ≤ 1000000) (hk : k ≤ 1000) : liB (n : Int) (k : Int) = !(elB (n : Int) 4 (k : Int)) := by
 have h1 : liB (n : Int) (k : Int) = false ↔ n ≠ 0 ∧ n % 4 = 0 ∧ n ≤ 4 * k := by
  unfold liB
  rw [Int.tmod_eq_emod_of_nonneg (by omega), show w64 (4 * (k : Int)) = 4 * k from w64_id (by omega) (by omega)]
  cases c1 : ((n : Int) == 0) with
  | true =>
   have : n = 0 := by have : (n : Int) = 0 := by simpa using c1
                      omega
   exact ⟨fun h => (by cases h), fun h => absurd this h.1⟩
  | false =>
   have n0 : n ≠ 0 := by rintro rfl; cases c1
   cases c2 : ((n : Int) % 4 != 0) with
   | true =>
    have : (n : Int) % 4 ≠ 0 := by simpa using c2
    exact ⟨fun h => (by cases h), fun h => by have := h.2.1; omega⟩
   | false =>
    have : (n : Int) % 4 = 0 := by simpa using c2
    by_cases c3 : (n : Int) > 4 * k
    · rw [decide_eq_true c3]
      exact ⟨fun h => (by cases h), fun h => by have := h.2.2; omega⟩
    · rw [decide_eq_false c3]
      exact ⟨fun _ => ⟨n0, by omega, by omega⟩, fun _ => rfl⟩
 have h2 := elB_n (k := n) hn (z := 4) (m := k) (by omega)
 cases hb : elB (n : Int) 4 (k : Int) with
 | true => have := h2.1 hb; rw [Bool.not_true]; exact h1.2 ⟨by omega, by omega, by omega⟩
 | false =>
  rw [Bool.not_false]
  cases hl : liB (n : Int) (k : Int) with
  | true => rfl
  | false =>
   have := h1.1 hl
   have := h2.2 ⟨by omega, by omega, by omega⟩
   rw [show ((4 : Nat) : Int) = 4 from rfl, hb] at this; cases this
theorem wd_n32 (es : List SV) : ∀ (k a : Nat), (wd es a k).map n32 = wd es a k
 | 0, _ => rfl
 | k + 1, a => by rw [wd, List.map_cons, wd_n32 es k (a + 4)]; rfl
theorem wd_drop {es : List SV} {s : Nat} : ∀ (k j : Nat), wd (es.drop s) j k = wd es (s + j) k
 | 0, _ => rfl
 | k + 1, j => by
  have ht : ∀ m, tkN (es.drop s) j m = tkN es (s + j) m := by
   intro m
   induction m with
   | zero => rfl
   | succ m ih => rw [tkN, tkN, ih]; unfold dg; rw [List.getD_eq_getElem?_getD, List.getElem?_drop, List.getD_eq_getElem?_getD, Nat.add_assoc]
  rw [wd, wd, ht, wd_drop k (j + 4), Nat.add_assoc]
theorem tkN_drop {es : List SV} {s j : Nat} : ∀ m, tkN (es.drop s) j m = tkN es (s + j) m
 | 0 => rfl
 | m + 1 => by rw [tkN, tkN, tkN_drop m]; unfold dg; rw [List.getD_eq_getElem?_getD, List.getElem?_drop, List.getD_eq_getElem?_getD, Nat.add_assoc]
theorem dg_drop {es : List SV} {s j : Nat} : dg (es.drop s) j = dg es (s + j) := by
 unfold dg; rw [List.getD_eq_getElem?_getD, List.getElem?_drop, List.getD_eq_getElem?_getD]
theorem u8_inj {n m : Int} (h1 : 0 ≤ n ∧ n ≤ 255) (h2 : 0 ≤ m ∧ m ≤ 255) (h : UInt8.ofNat n.toNat = UInt8.ofNat m.toNat) : n = m := by
 have := congrArg UInt8.toNat h
 rw [UInt8.toNat_ofNat', UInt8.toNat_ofNat'] at this
 omega
theorem hd3_fam {v : List SV} (hv : byl v) (hl : 3 ≤ v.length) : (hd3 v == famS) = (tkN v 0 3 == 6470) := by
 match v, hl with
 | a :: b :: c :: t, _ =>
  obtain ⟨x, rfl, x0, x1⟩ := hv a (by simp)
  obtain ⟨y, rfl, y0, y1⟩ := hv b (by simp)
  obtain ⟨z, rfl, w0, w1⟩ := hv c (by simp)
  have e1 : hd3 (.int .u8 x :: .int .u8 y :: .int .u8 z :: t) = [UInt8.ofNat x.toNat, UInt8.ofNat y.toNat, UInt8.ofNat z.toNat] := rfl
  have e2 : tkN (.int .u8 x :: .int .u8 y :: .int .u8 z :: t) 0 3 = ((0 * 256 + x) * 256 + y) * 256 + z := rfl
  rw [e1, e2]
  by_cases h : ((0 * 256 + x) * 256 + y) * 256 + z = 6470
  · have hx : x = 0 := by omega
    have hy : y = 25 := by omega
    have hz : z = 70 := by omega
    subst hx hy hz
    rfl
  · rw [show (((0 * 256 + x) * 256 + y) * 256 + z == 6470) = false by simpa using h]
    cases hq : ([UInt8.ofNat x.toNat, UInt8.ofNat y.toNat, UInt8.ofNat z.toNat] == famS) with
    | false => rfl
    | true =>
     have hq' := eq_of_beq hq
     unfold famS at hq'
     simp only [List.cons.injEq, and_true] at hq'
     obtain ⟨g1, g2, g3⟩ := hq'
     have := u8_inj (m := 0) ⟨x0, x1⟩ (by omega) g1
     have := u8_inj (m := 25) ⟨y0, y1⟩ (by omega) g2
     have := u8_inj (m := 70) ⟨w0, w1⟩ (by omega) g3
     omega
end Go.Proofs.YtdgnhaacdpmclaaGreat
