/- AddrCalls: pairs of digits by the reference. -/
import Derived.Test.YtjjfggahllnafaaGreatDoorPart4
set_option linter.unusedVariables false
set_option linter.unusedSimpArgs false
namespace Go.Proofs.YtjjfggahllnafaaGreatDoor
open Go.Am
set_option maxRecDepth 100000
def prV (a b : UInt8) : Int := w8 (w64 (w64 (16 * dgR a.toNat) + dgR b.toNat))
def prB (a b : UInt8) : Bool := decide (0 ≤ dgR a.toNat) && decide (0 ≤ dgR b.toNat)
def grF : Nat → List UInt8 → Option (List Int)
 | 1, [a, b] => bif prB a b then some [prV a b] else none
 | m + 2, a :: b :: c :: r => bif prB a b && c == 58 then (grF (m + 1) r).map (prV a b :: ·) else none
 | _, _ => none
theorem dgR_all : ((List.range 256).all fun k => bif decide (0 ≤ dgR ((k : Nat) : Int)) then decide (dgt ((k : Nat) : Int) 16 < 16 ∧ 0 ≤ dgt ((k : Nat) : Int) 16 ∧ dgR ((k : Nat) : Int) = dgt ((k : Nat) : Int) 16 ∧ k ≠ 58) else decide (16 ≤ dgt ((k : Nat) : Int) 16)) = true := by kernel_rfl
theorem dgR_ok {c : UInt8} (h : 0 ≤ dgR c.toNat) : dgt c.toNat 16 < 16 ∧ 0 ≤ dgt c.toNat 16 ∧ dgR c.toNat = dgt c.toNat 16 ∧ c ≠ 58 := by
 have := List.all_eq_true.1 dgR_all c.toNat (List.mem_range.2 c.toNat_lt)
 rw [decide_eq_true h, cond_true] at this
 obtain ⟨h1, h2, h3, h4⟩ := of_decide_eq_true this
 exact ⟨h1, h2, h3, fun e => h4 (by rw [e]; rfl)⟩
theorem dgR_no {c : UInt8} (h : ¬ 0 ≤ dgR c.toNat) : 16 ≤ dgt c.toNat 16 := by
 have := List.all_eq_true.1 dgR_all c.toNat (List.mem_range.2 c.toNat_lt)
 rw [decide_eq_false h, cond_false] at this
 exact of_decide_eq_true this
theorem prB_iff {a b : UInt8} : prB a b = true ↔ 0 ≤ dgR a.toNat ∧ 0 ≤ dgR b.toNat := by simp [prB]
theorem prV_v {a b : UInt8} (h : prB a b = true) : prV a b = dgt a.toNat 16 * 16 + dgt b.toNat 16 ∧ a ≠ 58 ∧ b ≠ 58 ∧ hexF [a, b] = (prV a b, true) ∧ 0 ≤ prV a b ∧ prV a b ≤ 255 := by
 obtain ⟨ha, hb⟩ := prB_iff.1 h
 obtain ⟨a1, a2, a3, a4⟩ := dgR_ok ha
 obtain ⟨b1, b2, b3, b4⟩ := dgR_ok hb
 have hv : prV a b = dgt a.toNat 16 * 16 + dgt b.toNat 16 := by
  unfold prV
  rw [a3, b3, show w64 (16 * dgt a.toNat 16) = 16 * dgt a.toNat 16 from w64_id (by omega) (by omega), show w64 (16 * dgt a.toNat 16 + dgt b.toNat 16) = 16 * dgt a.toNat 16 + dgt b.toNat 16 from w64_id (by omega) (by omega), show w8 (16 * dgt a.toNat 16 + dgt b.toNat 16) = 16 * dgt a.toNat 16 + dgt b.toNat 16 from w8_id (by omega) (by omega)]
  omega
 refine ⟨hv, a4, b4, ?_, by omega, by omega⟩
 rw [hv]
 unfold hexF dgV
 have e : dgS 16 255 [a, b] 0 = some (dgt a.toNat 16 * 16 + dgt b.toNat 16) := by
  unfold dgS
  rw [decide_eq_false (show ¬ dgt a.toNat 16 ≥ 16 by omega), cond_false, decide_eq_false (show ¬ 0 * 16 + dgt a.toNat 16 > 255 by omega), cond_false]
  unfold dgS
  rw [decide_eq_false (show ¬ dgt b.toNat 16 ≥ 16 by omega), cond_false, decide_eq_false (show ¬ (0 * 16 + dgt a.toNat 16) * 16 + dgt b.toNat 16 > 255 by omega), cond_false]
  unfold dgS
  rw [show (0 * 16 + dgt a.toNat 16) * 16 + dgt b.toNat 16 = dgt a.toNat 16 * 16 + dgt b.toNat 16 by omega]
 rw [e]
 rfl
theorem hexF_pr {s : List UInt8} {v : Int} (h : hexF s = (v, true)) : ∃ a b, s = [a, b] ∧ prB a b = true ∧ v = prV a b := by
 have h0 := h
 unfold hexF at h
 cases hz : ((s.length : Int) != 2) with
 | true => rw [hz] at h; cases h
 | false =>
  rw [hz, cond_false] at h
  have h2 : s.length = 2 := by
   have : (s.length : Int) = 2 := by simpa using hz
   omega
  unfold dgV at h
  cases hq : dgS 16 255 s 0 with
  | none => rw [hq] at h; cases h
  | some w =>
   match s, h2, hq, h0 with
   | [c1, c2], _, hq, h0 =>
    obtain ⟨a1, h1⟩ := dgS16_cons hq
    obtain ⟨b1, _⟩ := dgS16_cons h1
    have hp : prB c1 c2 = true := prB_iff.2 ⟨by
     by_cases g : 0 ≤ dgR c1.toNat
     · exact g
     · have := dgR_no g; omega, by
     by_cases g : 0 ≤ dgR c2.toNat
     · exact g
     · have := dgR_no g; omega⟩
    refine ⟨c1, c2, rfl, hp, ?_⟩
    have := (prV_v hp).2.2.2.1
    rw [this] at h0
    exact (congrArg Prod.fst h0).symm
theorem gr_sp : ∀ {k : Nat} {s : List UInt8} {l : List Int}, grF k s = some l → spF hexF 58 k s = some l
 | 0, _, _, h => by cases h
 | 1, [a, b], l, h => by
  unfold grF at h
  cases hp : prB a b with
  | false => rw [hp] at h; cases h
  | true =>
   rw [hp] at h; cases h
   obtain ⟨-, h1, h2, h3, -⟩ := prV_v hp
   exact spF_last (by intro y hy; simp at hy; rcases hy with rfl | rfl <;> assumption) h3
 | m + 2, a :: b :: c :: r, l, h => by
  unfold grF at h
  cases hp : prB a b && c == 58 with
  | false => rw [hp] at h; cases h
  | true =>
   rw [hp, cond_true] at h
   simp only [Bool.and_eq_true, beq_iff_eq] at hp
   obtain ⟨hp, rfl⟩ := hp
   obtain ⟨-, h1, h2, h3, -⟩ := prV_v hp
   obtain ⟨t, ht, rfl⟩ := Option.map_eq_some_iff.1 h
   exact spF_more (a := [a, b]) (by intro y hy; simp at hy; rcases hy with rfl | rfl <;> assumption) h3 (gr_sp ht)
 | 1, [], _, h => by cases h
 | 1, [_], _, h => by cases h
 | 1, _ :: _ :: _ :: _, _, h => by cases h
 | _ + 2, [], _, h => by cases h
 | _ + 2, [_], _, h => by cases h
 | _ + 2, [_, _], _, h => by cases h
theorem sp_gr : ∀ {k : Nat} {s : List UInt8} {l : List Int}, spF hexF 58 k s = some l → grF k s = some l ∧ s.length + 1 = 3 * k
 | 0, _, _, h => by cases h
 | k + 1, s, l, h => by
  rcases spF_back h with ⟨rfl, v, hr, rfl⟩ | ⟨x, t, v, r, rfl, hr, ht, rfl⟩
  · obtain ⟨a, b, rfl, hp, rfl⟩ := hexF_pr hr
    refine ⟨?_, rfl⟩
    unfold grF; rw [hp]; rfl
  · obtain ⟨a, b, rfl, hp, rfl⟩ := hexF_pr hr
    obtain ⟨g1, g2⟩ := sp_gr ht
    cases k with
    | zero => cases ht
    | succ k =>
     refine ⟨?_, by simp; omega⟩
     show grF (k + 2) (a :: b :: 58 :: t) = _
     unfold grF
     rw [hp, g1]; rfl
end Go.Proofs.YtjjfggahllnafaaGreatDoor
/- AddrCalls: the reference's ParseMAC, ParseESI, told. -/
namespace Go.Proofs.YtjjfggahllnafaaGreatDoor
open Go.Am
set_option maxRecDepth 100000
theorem drop_get {s t : List UInt8} {j : Nat} (h : s.drop j = t) (d : Nat) : s.getD (j + d) 0 = t.getD d 0 := by
 subst h
 simp [List.getD_eq_getElem?_getD, List.getElem?_drop]
theorem ixC_ok {s : List UInt8} {i : Int} {j : Nat} {K : Int → CTree} (hi : i = (j : Int)) (h : j < s.length) : ixC s i K = K (s.getD j 0).toNat := by
 subst hi
 unfold ixC
 rw [inB_ok (by omega) (by omega), cond_true]
 rfl
theorem ixD_ok {s : List UInt8} {i : Int} {j : Nat} {K : Int → CTree} (hi : i = (j : Int)) (h : j < s.length) : ixD s i K = K (dgR (s.getD j 0).toNat) := by
 unfold ixD
 have := (s.getD j 0).toNat_lt
 rw [ixC_ok hi h, decide_eq_true ⟨by omega, by omega⟩, cond_true]
def mtO (o : Option (List Int)) (vs : List Int) (F : CTree) (K : List Int → CTree) : CTree := match o with | some l => K (vs ++ l) | none => F
theorem two_dig {a b : UInt8} {F X : CTree} : (bif decide (dgR a.toNat < 0) then F else bif decide (dgR b.toNat < 0) then F else X) = bif prB a b then X else F := by
 unfold prB
 by_cases h : dgR a.toNat < 0
 · rw [decide_eq_true h, decide_eq_false (show ¬ 0 ≤ dgR a.toNat by omega)]; rfl
 · rw [decide_eq_false h, decide_eq_true (show 0 ≤ dgR a.toNat by omega), cond_false, Bool.true_and]
   by_cases h2 : dgR b.toNat < 0
   · rw [decide_eq_true h2, decide_eq_false (show ¬ 0 ≤ dgR b.toNat by omega)]; rfl
   · rw [decide_eq_false h2, decide_eq_true (show 0 ≤ dgR b.toNat by omega)]; rfl
theorem paR_v {s : List UInt8} {F : CTree} {K : List Int → CTree} (hs : s.length ≤ 1000) : ∀ (k n : Nat) (vs : List Int) (c a b : UInt8) (r : List UInt8), s.drop (3 * n + 2) = c :: a :: b :: r → r.length = 3 * k →
  paR s F (k + 1) ((n + 1 : Nat) : Int) vs K = mtO (bif c == 58 then grF (k + 1) (a :: b :: r) else none) vs F K
 | k, n, vs, c, a, b, r, hd, hr => by
  have hl : s.length = 3 * n + 2 + (3 + r.length) := by
   have := congrArg List.length hd
   simp only [List.length_drop, List.length_cons] at this
   omega
  have e1 : s.getD (3 * n + 3) 0 = a := drop_get hd 1
  have e2 : s.getD (3 * n + 4) 0 = b := drop_get hd 2
  have e0 : s.getD (3 * n + 2) 0 = c := drop_get hd 0
  have w3 : w64 (3 * ((n + 1 : Nat) : Int)) = ((3 * n + 3 : Nat) : Int) := by
   rw [show w64 (3 * ((n + 1 : Nat) : Int)) = 3 * ((n + 1 : Nat) : Int) from w64_id (by omega) (by omega)]; omega
  have w4 : w64 (((3 * n + 3 : Nat) : Int) + 1) = ((3 * n + 4 : Nat) : Int) := by
   rw [show w64 (((3 * n + 3 : Nat) : Int) + 1) = ((3 * n + 3 : Nat) : Int) + 1 from w64_id (by omega) (by omega)]; omega
  have w2 : w64 (((3 * n + 3 : Nat) : Int) - 1) = ((3 * n + 2 : Nat) : Int) := by
   rw [show w64 (((3 * n + 3 : Nat) : Int) - 1) = ((3 * n + 3 : Nat) : Int) - 1 from w64_id (by omega) (by omega)]; omega
  have wi : w64 (((n + 1 : Nat) : Int) + 1) = ((n + 1 + 1 : Nat) : Int) := by
   rw [show w64 (((n + 1 : Nat) : Int) + 1) = ((n + 1 : Nat) : Int) + 1 from w64_id (by omega) (by omega)]; omega
  unfold paR
  rw [w3, w4, w2, wi, ixD_ok rfl (by omega), ixD_ok rfl (by omega), e1, e2, two_dig, decide_eq_true (show ((n + 1 : Nat) : Int) > 0 by omega), cond_true, ixC_ok rfl (by omega), e0]
  have hc : (((c.toNat : Nat) : Int) != 58) = !(c == 58) := by
   rw [Bool.eq_iff_iff, bne_iff_ne, Bool.not_eq_true', beq_eq_false_iff_ne]
   constructor
   · intro h e; subst e; exact h rfl
   · intro h e
     apply h
     apply UInt8.toNat_inj.1
     show c.toNat = 58
     omega
  rw [hc]
  cases h58 : c == 58 with
  | false => simp only [Bool.not_false, cond_true, cond_false]; cases prB a b <;> rfl
  | true =>
   simp only [Bool.not_true, cond_false, cond_true]
   cases hp : prB a b with
   | false =>
    rw [cond_false]
    cases k with
    | zero =>
     have : r = [] := List.length_eq_zero_iff.1 (by omega)
     subst this
     unfold grF; rw [hp]; rfl
    | succ k =>
     match r, hr with
     | x :: r', _ => unfold grF; rw [hp]; rfl
   | true =>
    rw [cond_true]
    cases k with
    | zero =>
     have : r = [] := List.length_eq_zero_iff.1 (by omega)
     subst this
     unfold grF; rw [hp]; rfl
    | succ k =>
     match r, hr with
     | x :: y :: z :: r', hr =>
      simp only [List.length_cons] at hr
      have hd' : s.drop (3 * (n + 1) + 2) = x :: y :: z :: r' := by
       have := congrArg (List.drop 3) hd
       rw [List.drop_drop] at this
       simpa [show 3 * (n + 1) + 2 = 3 * n + 2 + 3 by omega, Nat.add_comm] using this
      have ih := paR_v (K := K) (F := F) hs k (n + 1) (vs ++ [prV a b]) x y z r' hd' (by omega)
      refine ih.trans ?_
      show _ = mtO (grF (k + 2) (a :: b :: x :: y :: z :: r')) vs F K
      rw [show grF (k + 2) (a :: b :: x :: y :: z :: r') = bif prB a b && x == 58 then (grF (k + 1) (y :: z :: r')).map (prV a b :: ·) else none from rfl, hp, Bool.true_and]
      cases x == 58 with
      | false => rfl
      | true =>
       rw [cond_true, cond_true]
       cases grF (k + 1) (y :: z :: r') with
       | none => rfl
       | some l => simp [mtO]
end Go.Proofs.YtjjfggahllnafaaGreatDoor
/- AddrCalls: the reference's ParseMAC, ParseESI, told. -/
namespace Go.Proofs.YtjjfggahllnafaaGreatDoor
open Go.Am
set_option maxRecDepth 100000
theorem sp_eq (k : Nat) (s : List UInt8) : spF hexF 58 k s = grF k s := by
 cases h : grF k s with
 | some l => exact gr_sp h
 | none =>
  cases h2 : spF hexF 58 k s with
  | none => rfl
  | some l => rw [(sp_gr h2).1] at h; cases h
theorem paC_v {s : List UInt8} {F : CTree} {K : List Int → CTree} {k : Nat} (hk : k ≤ 9) : paC s (k + 1) F K = mtO (spF hexF 58 (k + 1) s) [] F K := by
 have hw : w64 (w64 (3 * ((k + 1 : Nat) : Int)) - 1) = ((3 * k + 2 : Nat) : Int) := by
  rw [show w64 (3 * ((k + 1 : Nat) : Int)) = 3 * ((k + 1 : Nat) : Int) from w64_id (by omega) (by omega), show w64 (3 * ((k + 1 : Nat) : Int) - 1) = 3 * ((k + 1 : Nat) : Int) - 1 from w64_id (by omega) (by omega)]
  omega
 unfold paC
 rw [hw]
 cases hl : ((s.length : Int) != ((3 * k + 2 : Nat) : Int)) with
 | true =>
  rw [cond_true]
  cases h2 : spF hexF 58 (k + 1) s with
  | none => rfl
  | some l =>
   have := (sp_gr h2).2
   have hne : (s.length : Int) ≠ ((3 * k + 2 : Nat) : Int) := by simpa using hl
   omega
 | false =>
  have hlen : s.length = 3 * k + 2 := by
   have : (s.length : Int) = ((3 * k + 2 : Nat) : Int) := by simpa using hl
   omega
  rw [cond_false, sp_eq]
  match s, hlen with
  | a :: b :: r, hlen =>
   have hr : r.length = 3 * k := by simp only [List.length_cons] at hlen; omega
   unfold paR
   rw [show w64 (3 * 0) = ((0 : Nat) : Int) from by decide, show w64 (((0 : Nat) : Int) + 1) = ((1 : Nat) : Int) from by decide, ixD_ok rfl (by simp), ixD_ok rfl (by simp), decide_eq_false (show ¬ (0 : Int) > 0 by omega), cond_false]
   rw [show (a :: b :: r).getD 0 0 = a from rfl, show (a :: b :: r).getD 1 0 = b from rfl, two_dig]
   show (bif prB a b then paR (a :: b :: r) F k (w64 (0 + 1)) [prV a b] K else F) = _
   rw [show w64 (0 + 1) = ((0 + 1 : Nat) : Int) from by decide]
   cases hp : prB a b with
   | false =>
    cases k with
    | zero =>
     have : r = [] := List.length_eq_zero_iff.1 (by omega)
     subst this
     unfold grF; rw [hp]; rfl
    | succ k =>
     match r, hr with
     | x :: r', _ => unfold grF; rw [hp]; rfl
   | true =>
    rw [cond_true]
    cases k with
    | zero =>
     have : r = [] := List.length_eq_zero_iff.1 (by omega)
     subst this
     unfold grF; rw [hp]; rfl
    | succ k =>
     match r, hr with
     | x :: y :: z :: r', hr =>
      simp only [List.length_cons] at hr
      have ih := paR_v (s := a :: b :: x :: y :: z :: r') (K := K) (F := F) (by simp only [List.length_cons]; omega) k 0 [prV a b] x y z r' rfl (by omega)
      refine ih.trans ?_
      rw [show grF (k + 1 + 1) (a :: b :: x :: y :: z :: r') = bif prB a b && x == 58 then (grF (k + 1) (y :: z :: r')).map (prV a b :: ·) else none from rfl, hp, Bool.true_and]
      cases x == 58 with
      | false => rfl
      | true =>
       rw [cond_true, cond_true]
       cases grF (k + 1) (y :: z :: r') <;> rfl
theorem sp_bytes : ∀ {k : Nat} {s : List UInt8} {l : List Int}, grF k s = some l → bytesI l ∧ l.length = k
 | 0, _, _, h => by cases h
 | 1, [a, b], l, h => by
  unfold grF at h
  cases hp : prB a b with
  | false => rw [hp] at h; cases h
  | true =>
   rw [hp] at h; cases h
   obtain ⟨-, -, -, -, h4, h5⟩ := prV_v hp
   exact ⟨fun x hx => by simp at hx; subst hx; exact ⟨h4, h5⟩, rfl⟩
 | m + 2, a :: b :: c :: r, l, h => by
  unfold grF at h
  cases hp : prB a b && c == 58 with
  | false => rw [hp] at h; cases h
  | true =>
   rw [hp, cond_true] at h
   simp only [Bool.and_eq_true] at hp
   obtain ⟨-, -, -, -, h4, h5⟩ := prV_v hp.1
   obtain ⟨t, ht, rfl⟩ := Option.map_eq_some_iff.1 h
   obtain ⟨g1, g2⟩ := sp_bytes ht
   refine ⟨fun x hx => ?_, by simp [g2]⟩
   rcases List.mem_cons.1 hx with rfl | hx
   · exact ⟨h4, h5⟩
   · exact g1 x hx
 | 1, [], _, h => by cases h
 | 1, [_], _, h => by cases h
 | 1, _ :: _ :: _ :: _, _, h => by cases h
 | _ + 2, [], _, h => by cases h
 | _ + 2, [_], _, h => by cases h
 | _ + 2, [_, _], _, h => by cases h
theorem plM_eq {l : List Int} (hb : bytesI l) (hl : l.length = 6) : plM l = macO l := by
 match l, hl with
 | [a, b, c, d, e, f], _ =>
  obtain ⟨a0, a1⟩ := hb a (by simp); obtain ⟨b0, b1⟩ := hb b (by simp); obtain ⟨c0, c1⟩ := hb c (by simp); obtain ⟨d0, d1⟩ := hb d (by simp); obtain ⟨e0, e1⟩ := hb e (by simp); obtain ⟨f0, f1⟩ := hb f (by simp)
  rw [macO_v a0 a1 b0 b1 c0 c1 d0 d1 e0 e1 f0 f1]
  show plO (plO (plO (plO (plO (plO 0 a) b) c) d) e) f = _
  rw [plO_v (a := 0) (b := a) (by omega) a0 (by omega), plO_v (b := b) (by omega) b0 (by omega), plO_v (b := c) (by omega) c0 (by omega), plO_v (b := d) (by omega) d0 (by omega), plO_v (b := e) (by omega) e0 (by omega), plO_v (b := f) (by omega) f0 (by omega)]
  omega
theorem pmx_k : Known Tryz.prog 52 pmac_s := (openKnown (tbl_cons dr_k ok0) Tryz.func52 rfl).weak (by
 intro args H v ups h
 unfold pmac_s at h
 split at h
 · rename_i s
   rw [crun_ite, cond_eq_ite] at h
   split at h
   · rw [← h]
     refine (congrArg crun (pmx_t s)).trans ?_
     rw [paC_v (k := 5) (by omega)]
     unfold pmacV
     cases hq : spF hexF 58 6 s with
     | none => rfl
     | some l =>
      rw [sp_eq] at hq
      obtain ⟨hb, hl⟩ := sp_bytes hq
      simp only [mtO, List.nil_append]
      rw [plM_eq hb hl]
   · cases h
 · cases h)
theorem pex_k : Known Tryz.prog 58 pesi_s := (openKnown (tbl_cons dr_k ok0) Tryz.func58 rfl).weak (by
 intro args H v ups h
 unfold pesi_s at h
 split at h
 · rename_i s
   rw [crun_ite, cond_eq_ite] at h
   split at h
   · rw [← h]
     refine (congrArg crun (pex_t s)).trans ?_
     rw [paC_v (k := 9) (by omega)]
     unfold pesiV
     cases hq : spF hexF 58 10 s <;> rfl
   · cases h
 · cases h)
end Go.Proofs.YtjjfggahllnafaaGreatDoor
/- AddrCalls: the reference's Number: its loop. -/
namespace Go.Proofs.YtjjfggahllnafaaGreatDoor
open Go.Am
set_option maxRecDepth 100000
def nuS : List UInt8 → Int → Option Int
 | [], v => some v
 | c :: cs, v => bif decide (48 ≤ c.toNat) && decide (c.toNat ≤ 57) then nuS cs (10 * v + ((c.toNat : Int) - 48)) else none
def nuOk (s : List UInt8) (v i : Int) : Prop := 0 ≤ v ∧ v < 10 ^ i.toNat ∧ s.length ≤ 10 ∧ 0 ≤ i ∧ i ≤ s.length
noncomputable def body73 : Code := Tryz.f73.body.getD .skip
noncomputable def c73 : Code := (loopAt 5 body73).getD .skip
noncomputable def nu_s : CSumm := fun args H => match args, H with
 | [.str s, .int .i64 v, .int .i64 i], [] => .ite (dec (nuOk s v i)) (.ite (nuS (s.drop i.toNat) v).isSome (.ret (.tup [.int .i64 2, .junk, .junk, .int .i64 ((nuS (s.drop i.toNat) v).getD 0)]) [])
   (.ret (.tup [.int .i64 1, .int .i64 0, .bool false, .junk]) [])) .fail
 | _, _ => .fail
def nuM : List SV → HpL → Nat
 | [.str s, _, .int _ i], _ => ((s.length : Int) - i).toNat
 | _, _ => 0
noncomputable def e73 : LEnt := { ins := [0, 6, 7], outs := [4, 5, 6], keep := [1], size := 53, code := c73, s := nu_s }
noncomputable def nuN (N : Nat) (s : List UInt8) (v i : Int) : CTree := bif Nat.blt ((s.length : Int) - i).toNat N then bif dec (nuOk s v i) then bif (nuS (s.drop i.toNat) v).isSome then (.ret (.tup [.int .i64 2, .junk, .junk, .int .i64 ((nuS (s.drop i.toNat) v).getD 0)]) [])
      else (.ret (.tup [.int .i64 1, .int .i64 0, .bool false, .junk]) []) else .fail else .fail
def nuR (v : Int) : CTree := .ret (.tup [.int .i64 1, .int .i64 0, .bool false, .int .i64 v]) []
noncomputable def nuX (N : Nat) (s : List UInt8) (v i c : Int) : CTree := bif decide (c < 48) then nuR v else bif inB i s.length then bif decide (c > 57) then nuR v else bif inB i s.length then nuN N s (w64 (w64 (10 * v) + w64 (w8 (c - 48)))) (w64 (i + 1)) else .fail else .fail
theorem nu_t (N : Nat) (s : List UInt8) (v i : Int) : loopOnce Tryz.prog κ0 (fun _ => false) (ltab []) true 300 e73 { e73 with s := boundT nuM nu_s N } c73 [.str s, .int .i64 v, .int .i64 i] [] =
 bif decide (i < s.length) then bif inB i s.length then nuX N s v i ((s.getD i.toNat 0).toNat : Int) else .fail else .ret (.tup [.int .i64 2, .junk, .junk, .int .i64 v]) [] := by kernel_rfl
end Go.Proofs.YtjjfggahllnafaaGreatDoor
/- AddrCalls: the reference's Number: its loop, valid. -/
namespace Go.Proofs.YtjjfggahllnafaaGreatDoor
open Go.Am
set_option maxRecDepth 100000
theorem nuX_eq {N : Nat} {s : List UInt8} {v i c : Int} (hi : inB i s.length = true) (c0 : 0 ≤ c) (c1 : c ≤ 255) (v0 : 0 ≤ v) (v1 : v < 10 ^ 10) : nuX N s v i c = bif decide (48 ≤ c) && decide (c ≤ 57) then nuN N s (10 * v + (c - 48)) (w64 (i + 1)) else nuR v := by
 have hp : (10 : Int) ^ 10 = 10000000000 := by decide
 unfold nuX
 by_cases a1 : c < 48
 · rw [decide_eq_true a1, decide_eq_false (show ¬ 48 ≤ c by omega)]; rfl
 · rw [decide_eq_false a1, cond_false, hi, cond_true, decide_eq_true (show 48 ≤ c by omega), Bool.true_and]
   by_cases a2 : c > 57
   · rw [decide_eq_true a2, decide_eq_false (show ¬ c ≤ 57 by omega)]; rfl
   · rw [decide_eq_false a2, decide_eq_true (show c ≤ 57 by omega), cond_false, cond_true, cond_true, show w8 (c - 48) = c - 48 from w8_id (by omega) (by omega), show w64 (c - 48) = c - 48 from w64_id (by omega) (by omega), show w64 (10 * v) = 10 * v from w64_id (by omega) (by omega), show w64 (10 * v + (c - 48)) = 10 * v + (c - 48) from w64_id (by omega) (by omega)]
end Go.Proofs.YtjjfggahllnafaaGreatDoor
/- AddrCalls: the reference's Number. -/
namespace Go.Proofs.YtjjfggahllnafaaGreatDoor
open Go.Am
set_option maxRecDepth 100000
theorem pow_le10 {k : Nat} (h : k ≤ 10) : (10 : Int) ^ k ≤ 10 ^ 10 := by
 have : (10 : Nat) ^ k ≤ 10 ^ 10 := Nat.pow_le_pow_right (by decide) h
 exact_mod_cast this
theorem nu_valid : ValidL Tryz.prog e73 := loop_valid5 (T := ltab []) (sp := true) (fuel := 300) (c := c73) (μ := nuM) mixTry ltab_nil (show fillC (ltab []) c73 = c73 by kernel_rfl) (by
 intro N args H v' ups' hbt h
 unfold e73 nu_s at h
 simp only [] at h
 split at h
 · rename_i s v i
   rw [crun_ite] at h
   cases hc : dec (nuOk s v i) with
   | false => rw [hc] at h; cases h
   | true =>
    rw [hc, cond_true, crun_ite] at h
    obtain ⟨hv, hv1, hs, i0, i1⟩ := dec_iff.1 hc
    have hN : Nat.blt ((s.length : Int) - i).toNat (N + 1) = true := hbt
    rw [Nat.blt_eq] at hN
    refine ⟨κ0, fun _ => false, κ0Ok, ?_⟩
    have ht := nu_t N s v i
    obtain ⟨k, rfl⟩ := Int.eq_ofNat_of_zero_le i0
    have hk : ((k : Nat) : Int).toNat = k := rfl
    rw [hk] at h ht hv1
    by_cases hi : (k : Int) < s.length
    · obtain ⟨c0, c1⟩ := chr_rng (s.getD k 0)
      have hkl : k < s.length := by omega
      have hp := pow_le10 (show k ≤ 10 by omega)
      rw [decide_eq_true hi, cond_true, inB_ok (by omega) (by omega), cond_true, nuX_eq (inB_ok (by omega) (by omega)) c0 c1 hv (by omega), show w64 ((k : Int) + 1) = ((k + 1 : Nat) : Int) from (w64_id (by omega) (by omega)).trans (by omega)] at ht
      rw [getD_cons hkl, nuS] at h
      have hd : (decide (48 ≤ (s.getD k 0).toNat) && decide ((s.getD k 0).toNat ≤ 57)) = (decide (48 ≤ ((s.getD k 0).toNat : Int)) && decide (((s.getD k 0).toNat : Int) ≤ 57)) := by
       rw [Bool.eq_iff_iff]; simp only [Bool.and_eq_true, decide_eq_true_eq]; omega
      rw [hd] at h
      cases hq : (decide (48 ≤ ((s.getD k 0).toNat : Int)) && decide (((s.getD k 0).toNat : Int) ≤ 57)) with
      | false =>
       rw [hq] at h
       rw [hq, cond_false] at ht
       cases h
       exact ⟨_, _, congrArg crun ht, .told ⟨1, [.int .i64 0, .bool false, .int .i64 v], [.int .i64 0, .bool false, .junk], rfl, rfl, .cons .rfl' (.cons .rfl' (CoL.junk Tryz.prog [.int .i64 v])), fun y c' hy => ⟨c', hy, .rfl'⟩⟩⟩
      | true =>
       rw [hq, cond_true] at h ht
       simp only [Bool.and_eq_true, decide_eq_true_eq] at hq
       have hpw : (10 : Int) ^ (k + 1) = 10 ^ k * 10 := Int.pow_succ ..
       unfold nuN at ht
       rw [show Nat.blt ((s.length : Int) - ((k + 1 : Nat) : Int)).toNat N = true by rw [Nat.blt_eq]; omega, cond_true, dec_iff.2 ⟨by omega, by rw [show ((k + 1 : Nat) : Int).toNat = k + 1 from rfl, hpw]; omega, hs, by omega, by omega⟩, cond_true, show ((k + 1 : Nat) : Int).toNat = k + 1 from rfl] at ht
       refine ⟨v', ups', (congrArg crun ht).trans ?_, .same fun _ => rfl⟩
       rw [crun_cond]
       exact h
    · rw [decide_eq_false hi, cond_false] at ht
      have : s.drop k = [] := List.drop_eq_nil_of_le (by omega)
      rw [this] at h
      exact ⟨v', ups', (congrArg crun ht).trans h, .same fun _ => rfl⟩
 · cases h)
noncomputable abbrev T73 : LTab := ltab [("d", e73)]
noncomputable abbrev m73 : Code := markC [(5, "d")] body73
noncomputable def num_b : CSumm := bodyCL Tryz.prog κ0 (fun _ => false) T73 true 300 Tryz.f73 m73
theorem num_k0 : Known Tryz.prog 73 num_b := ⟨⟨Tryz.f73, Tryz.func73, noNum_at noNumTry Tryz.func73, rfl⟩, bodyL_valid κ0Ok mixTry (ltab_cons nu_valid ltab_nil) Tryz.func73 (show Tryz.f73.body = some (fillC T73 m73) by kernel_rfl)⟩
end Go.Proofs.YtjjfggahllnafaaGreatDoor
/- AddrCalls: the reference's Number, known. -/
namespace Go.Proofs.YtjjfggahllnafaaGreatDoor
open Go.Am
set_option maxRecDepth 100000
noncomputable def nuL (s : List UInt8) (m : Int) : CTree := bif dec (nuOk s 0 0) then bif (nuS (s.drop (0 : Int).toNat) 0).isSome then
 .ret (.tup [.int .i64 ((nuS (s.drop (0 : Int).toNat) 0).getD 0), .bool (decide ((nuS (s.drop (0 : Int).toNat) 0).getD 0 ≤ m))]) [] else .ret (.tup [.int .i64 0, .bool false]) [] else .fail
def nuZ : CTree := .ret (.tup [.int .i64 0, .bool false]) []
theorem num_t (s : List UInt8) (m : Int) : num_b [.str s, .int .i64 m] [] = bif s == [] then nuZ else bif decide ((s.length : Int) > 10) then nuZ else bif inB 0 s.length then
 bif ((s.getD (0 : Int).toNat 0).toNat : Int) == 48 then bif decide ((s.length : Int) > 1) then nuZ else nuL s m else nuL s m else .fail := by kernel_rfl
def nuV (m : Int) (s : List UInt8) : Int × Bool := bif s == [] || (decide (s.length > 10) || (s.getD 0 0 == 48 && decide (s.length > 1))) then (0, false) else match nuS s 0 with
 | some v => (v, decide (v ≤ m))
 | none => (0, false)
noncomputable def num_s : CSumm := fun args H => match args, H with
 | [.str s, .int .i64 m], [] => .ret (.tup [.int .i64 (nuV m s).1, .bool (nuV m s).2]) []
 | _, _ => .fail
theorem nuL_v {s : List UInt8} {m : Int} (h : s.length ≤ 10) : crun (nuL s m) = crun (match nuS s 0 with | some v => .ret (.tup [.int .i64 v, .bool (decide (v ≤ m))]) [] | none => nuZ) := by
 unfold nuL
 rw [dec_iff.2 ⟨Int.le_refl _, by decide, h, Int.le_refl _, by omega⟩, cond_true, show s.drop (0 : Int).toNat = s from rfl]
 cases nuS s 0 <;> rfl
theorem num_k : Known Tryz.prog 73 num_s := num_k0.weak (by
 intro args H v ups h
 unfold num_s at h
 split at h
 · rename_i s m
   rw [← h]
   refine (congrArg crun (num_t s m)).trans ?_
   unfold nuV
   cases h1 : s == [] with
   | true => rfl
   | false =>
    have hne : s ≠ [] := by intro e; subst e; cases h1
    have hpos : 0 < s.length := List.length_pos_iff.2 hne
    rw [cond_false, Bool.false_or]
    by_cases h2 : s.length > 10
    · rw [decide_eq_true h2, decide_eq_true (show (s.length : Int) > 10 by omega)]; rfl
    · rw [decide_eq_false h2, decide_eq_false (show ¬ (s.length : Int) > 10 by omega), cond_false, inB_ok (by omega) (by omega), cond_true, Bool.false_or]
      have hL := nuL_v (s := s) (m := m) (by omega)
      have h48 : (((s.getD (0 : Int).toNat 0).toNat : Int) == 48) = (s.getD 0 0 == 48) := by
       show (((s.getD 0 0).toNat : Int) == 48) = _
       rw [Bool.eq_iff_iff, beq_iff_eq, beq_iff_eq]
       constructor
       · intro e; apply UInt8.toNat_inj.1; show (s.getD 0 0).toNat = 48; omega
       · intro e; rw [e]; rfl
      rw [h48]
      cases h3 : s.getD 0 0 == 48 with
      | false =>
       rw [cond_false, Bool.false_and, cond_false, hL]
       cases nuS s 0 <;> rfl
      | true =>
       rw [cond_true, Bool.true_and]
       by_cases h4 : s.length > 1
       · rw [decide_eq_true h4, decide_eq_true (show (s.length : Int) > 1 by omega)]; rfl
       · rw [decide_eq_false h4, decide_eq_false (show ¬ (s.length : Int) > 1 by omega), cond_false, cond_false, hL]
         cases nuS s 0 <;> rfl
 · cases h)
end Go.Proofs.YtjjfggahllnafaaGreatDoor
/- AddrCalls: the reference's numbers are addr's. -/
namespace Go.Proofs.YtjjfggahllnafaaGreatDoor
open Go.Am
set_option maxRecDepth 100000
theorem dig_all : ((List.range 256).all fun k => bif decide (48 ≤ k) && decide (k ≤ 57) then decide (dgt ((k : Nat) : Int) 10 = ((k : Nat) : Int) - 48) else decide (10 ≤ dgt ((k : Nat) : Int) 10)) = true := by kernel_rfl
theorem dig_y {c : UInt8} (h : (decide (48 ≤ c.toNat) && decide (c.toNat ≤ 57)) = true) : dgt c.toNat 10 = (c.toNat : Int) - 48 := by
 have := List.all_eq_true.1 dig_all c.toNat (List.mem_range.2 c.toNat_lt)
 rw [h, cond_true] at this
 exact of_decide_eq_true this
theorem dig_n {c : UInt8} (h : (decide (48 ≤ c.toNat) && decide (c.toNat ≤ 57)) = false) : 10 ≤ dgt c.toNat 10 := by
 have := List.all_eq_true.1 dig_all c.toNat (List.mem_range.2 c.toNat_lt)
 rw [h, cond_false] at this
 exact of_decide_eq_true this
theorem nuS_pow : ∀ (s : List UInt8) (v w : Int), 0 ≤ v → nuS s v = some w → v * 10 ^ s.length ≤ w
 | [], v, w, _, h => by cases h; simp
 | c :: cs, v, w, hv, h => by
  unfold nuS at h
  cases hq : decide (48 ≤ c.toNat) && decide (c.toNat ≤ 57) with
  | false => rw [hq] at h; cases h
  | true =>
   rw [hq, cond_true] at h
   simp only [Bool.and_eq_true, decide_eq_true_eq] at hq
   have ih := nuS_pow cs _ w (by omega) h
   have h1 : v * 10 ≤ 10 * v + ((c.toNat : Int) - 48) := by omega
   have h2 : (v * 10) * 10 ^ cs.length ≤ (10 * v + ((c.toNat : Int) - 48)) * 10 ^ cs.length := Int.mul_le_mul_of_nonneg_right h1 (Int.pow_nonneg (by decide))
   rw [List.length_cons, Int.pow_succ, Int.mul_comm (10 ^ cs.length) 10, ← Int.mul_assoc]
   exact Int.le_trans h2 ih
theorem nuS_le {s : List UInt8} {v w : Int} (hv : 0 ≤ v) (h : nuS s v = some w) : v ≤ w := by
 have h1 := nuS_pow s v w hv h
 have h2 : (1 : Int) ≤ 10 ^ s.length := by
  have : 0 < 10 ^ s.length := Nat.pow_pos (by decide)
  exact_mod_cast this
 have h3 : v * 1 ≤ v * 10 ^ s.length := Int.mul_le_mul_of_nonneg_left h2 hv
 omega
theorem nu_dg {l : Int} : ∀ (s : List UInt8) (v : Int), 0 ≤ v → v ≤ l → dgS 10 l s v = match nuS s v with | some w => bif decide (w ≤ l) then some w else none | none => none
 | [], v, _, h1 => by unfold dgS nuS; simp only []; rw [decide_eq_true h1]; rfl
 | c :: cs, v, h0, h1 => by
  unfold dgS nuS
  cases hq : decide (48 ≤ c.toNat) && decide (c.toNat ≤ 57) with
  | false =>
   have := dig_n hq
   rw [decide_eq_true (show dgt c.toNat 10 ≥ 10 from this)]; rfl
  | true =>
   rw [dig_y hq, cond_true]
   simp only [Bool.and_eq_true, decide_eq_true_eq] at hq
   rw [decide_eq_false (show ¬ (c.toNat : Int) - 48 ≥ 10 by omega), cond_false]
   rw [show v * 10 + ((c.toNat : Int) - 48) = 10 * v + ((c.toNat : Int) - 48) by omega]
   by_cases hl : 10 * v + ((c.toNat : Int) - 48) > l
   · rw [decide_eq_true hl, cond_true]
     cases hn : nuS cs (10 * v + ((c.toNat : Int) - 48)) with
     | none => rfl
     | some w =>
      have := nuS_le (by omega) hn
      simp only []
      rw [decide_eq_false (by omega)]; rfl
   · rw [decide_eq_false hl, cond_false]
     exact nu_dg cs _ (by omega) (by omega)
end Go.Proofs.YtjjfggahllnafaaGreatDoor
