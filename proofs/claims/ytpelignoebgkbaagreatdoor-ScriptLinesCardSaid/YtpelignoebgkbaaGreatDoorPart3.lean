/- The reference's ParseMAC: its tree. -/
import Derived.Test.YtpelignoebgkbaaGreatDoorPart2
import Derived.Test.YtpelignoebgkbaaGreatDoorMachine7
set_option linter.unusedVariables false
set_option linter.unusedSimpArgs false
namespace Go.Proofs.YtpelignoebgkbaaGreatDoor
open Go.Am
set_option maxRecDepth 100000
/- AddrCalls: the reference's ParseMAC, ParseESI: trees. -/
def ixC (s : List UInt8) (i : Int) (K : Int → CTree) : CTree := bif inB i s.length then K (s.getD i.toNat 0).toNat else .fail
def ixD (s : List UInt8) (i : Int) (K : Int → CTree) : CTree := ixC s i fun c => bif decide (0 ≤ c ∧ c ≤ 255) then K (dgR c) else .fail
def paR (s : List UInt8) (F : CTree) : Nat → Int → List Int → (List Int → CTree) → CTree
 | 0, _, vs, K => K vs
 | k + 1, i, vs, K => ixD s (w64 (3 * i)) fun a => ixD s (w64 (w64 (3 * i) + 1)) fun b => bif decide (a < 0) then F else bif decide (b < 0) then F else
   bif decide (i > 0) then ixC s (w64 (w64 (3 * i) - 1)) fun c => bif c != 58 then F else paR s F k (w64 (i + 1)) (vs ++ [w8 (w64 (w64 (16 * a) + b))]) K else paR s F k (w64 (i + 1)) (vs ++ [w8 (w64 (w64 (16 * a) + b))]) K
def paC (s : List UInt8) (n : Nat) (F : CTree) (K : List Int → CTree) : CTree := bif (s.length : Int) != w64 (w64 (3 * n) - 1) then F else paR s F n 0 [] K
def plO (a b : Int) : Int := IntKind.u64.wrap (IntKind.u64.wrap (a * 256) + IntKind.u64.wrap b)
theorem plO_v {a b : Int} (h0 : 0 ≤ a) (b0 : 0 ≤ b) (h : a * 256 + b < 18446744073709551616) : plO a b = a * 256 + b := by
 unfold plO
 rw [show IntKind.u64.wrap (a * 256) = a * 256 from wu64_idU (by omega) (by omega), show IntKind.u64.wrap b = b from wu64_idU (by omega) (by omega)]
 exact wu64_idU (by omega) (by omega)
def plMr (l : List Int) : Int := plO (plO (plO (plO (plO (plO 0 (l.getD 0 0)) (l.getD 1 0)) (l.getD 2 0)) (l.getD 3 0)) (l.getD 4 0)) (l.getD 5 0)
theorem pmx_t (s : List UInt8) : opn (tbl [(100, dr_s)]) Tryz.f65 [.str s] [] = paC s 6 (.ret (.tup [.int .u64 0, .int .i64 19]) []) fun l => .ret (.tup [.int .u64 (plMr l), .int .i64 0]) [] := by kernel_rfl
end Go.Proofs.YtpelignoebgkbaaGreatDoor
/- Groups of two digits, two ways. -/
namespace Go.Proofs.YtpelignoebgkbaaGreatDoor
open Go.Am
set_option maxRecDepth 100000
def prV (a b : UInt8) : Int := w8 (w64 (w64 (16 * dgR a.toNat) + dgR b.toNat))
def prB (a b : UInt8) : Bool := decide (0 ≤ dgR a.toNat) && decide (0 ≤ dgR b.toNat)
def grF : Nat → List UInt8 → Option (List Int)
 | 1, [a, b] => bif prB a b then some [prV a b] else none
 | m + 2, a :: b :: c :: r => bif prB a b && c == 58 then (grF (m + 1) r).map (prV a b :: ·) else none
 | _, _ => none
theorem dgR_all : ((List.range 256).all fun k => bif decide (0 ≤ dgR ((k : Nat) : Int)) then decide (dgt ((k : Nat) : Int) 16 < 16 ∧ 0 ≤ dgt ((k : Nat) : Int) 16 ∧ dgR ((k : Nat) : Int) = dgt ((k : Nat) : Int) 16 ∧ k ≠ 58) else decide (16 ≤ dgt ((k : Nat) : Int) 16)) = true := by kernel_rfl
theorem dgR_ok {c : UInt8} (h : 0 ≤ dgR c.toNat) : dgt c.toNat 16 < 16 ∧ 0 ≤ dgt c.toNat 16 ∧ dgR c.toNat = dgt c.toNat 16 ∧ c ≠ 58 := by
 have := List.all_eq_true.1 dgR_all c.toNat (List.mem_range.2 c.toNat_lt)
 rw [decide_eq_true h, cond_true] at this
 obtain ⟨h1, h2, h3, h4⟩ := of_decide_eq_true this
 exact ⟨h1, h2, h3, fun e => h4 (by rw [e]; rfl)⟩
theorem dgR_no {c : UInt8} (h : ¬ 0 ≤ dgR c.toNat) : 16 ≤ dgt c.toNat 16 := by
 have := List.all_eq_true.1 dgR_all c.toNat (List.mem_range.2 c.toNat_lt)
 rw [decide_eq_false h, cond_false] at this
 exact of_decide_eq_true this
theorem prB_iff {a b : UInt8} : prB a b = true ↔ 0 ≤ dgR a.toNat ∧ 0 ≤ dgR b.toNat := by simp [prB]
theorem prV_v {a b : UInt8} (h : prB a b = true) : prV a b = dgt a.toNat 16 * 16 + dgt b.toNat 16 ∧ a ≠ 58 ∧ b ≠ 58 ∧ hexF [a, b] = (prV a b, true) ∧ 0 ≤ prV a b ∧ prV a b ≤ 255 := by
 obtain ⟨ha, hb⟩ := prB_iff.1 h
 obtain ⟨a1, a2, a3, a4⟩ := dgR_ok ha
 obtain ⟨b1, b2, b3, b4⟩ := dgR_ok hb
 have hv : prV a b = dgt a.toNat 16 * 16 + dgt b.toNat 16 := by
  unfold prV
  rw [a3, b3, show w64 (16 * dgt a.toNat 16) = 16 * dgt a.toNat 16 from w64_id (by omega) (by omega), show w64 (16 * dgt a.toNat 16 + dgt b.toNat 16) = 16 * dgt a.toNat 16 + dgt b.toNat 16 from w64_id (by omega) (by omega), show w8 (16 * dgt a.toNat 16 + dgt b.toNat 16) = 16 * dgt a.toNat 16 + dgt b.toNat 16 from w8_id (by omega) (by omega)]
  omega
 refine ⟨hv, a4, b4, ?_, by omega, by omega⟩
 rw [hv]
 unfold hexF dgV
 have e : dgS 16 255 [a, b] 0 = some (dgt a.toNat 16 * 16 + dgt b.toNat 16) := by
  unfold dgS
  rw [decide_eq_false (show ¬ dgt a.toNat 16 ≥ 16 by omega), cond_false, decide_eq_false (show ¬ 0 * 16 + dgt a.toNat 16 > 255 by omega), cond_false]
  unfold dgS
  rw [decide_eq_false (show ¬ dgt b.toNat 16 ≥ 16 by omega), cond_false, decide_eq_false (show ¬ (0 * 16 + dgt a.toNat 16) * 16 + dgt b.toNat 16 > 255 by omega), cond_false]
  unfold dgS
  rw [show (0 * 16 + dgt a.toNat 16) * 16 + dgt b.toNat 16 = dgt a.toNat 16 * 16 + dgt b.toNat 16 by omega]
 rw [e]
 rfl
theorem hexF_pr {s : List UInt8} {v : Int} (h : hexF s = (v, true)) : ∃ a b, s = [a, b] ∧ prB a b = true ∧ v = prV a b := by
 have h0 := h
 unfold hexF at h
 cases hz : ((s.length : Int) != 2) with
 | true => rw [hz] at h; cases h
 | false =>
  rw [hz, cond_false] at h
  have h2 : s.length = 2 := by
   have : (s.length : Int) = 2 := by simpa using hz
   omega
  unfold dgV at h
  cases hq : dgS 16 255 s 0 with
  | none => rw [hq] at h; cases h
  | some w =>
   match s, h2, hq, h0 with
   | [c1, c2], _, hq, h0 =>
    obtain ⟨a1, h1⟩ := dgS16_cons hq
    obtain ⟨b1, _⟩ := dgS16_cons h1
    have hp : prB c1 c2 = true := prB_iff.2 ⟨by
     by_cases g : 0 ≤ dgR c1.toNat
     · exact g
     · have := dgR_no g; omega, by
     by_cases g : 0 ≤ dgR c2.toNat
     · exact g
     · have := dgR_no g; omega⟩
    refine ⟨c1, c2, rfl, hp, ?_⟩
    have := (prV_v hp).2.2.2.1
    rw [this] at h0
    exact (congrArg Prod.fst h0).symm
theorem gr_sp : ∀ {k : Nat} {s : List UInt8} {l : List Int}, grF k s = some l → spF hexF 58 k s = some l
 | 0, _, _, h => by cases h
 | 1, [a, b], l, h => by
  unfold grF at h
  cases hp : prB a b with
  | false => rw [hp] at h; cases h
  | true =>
   rw [hp] at h; cases h
   obtain ⟨-, h1, h2, h3, -⟩ := prV_v hp
   exact spF_last (by intro y hy; simp at hy; rcases hy with rfl | rfl <;> assumption) h3
 | m + 2, a :: b :: c :: r, l, h => by
  unfold grF at h
  cases hp : prB a b && c == 58 with
  | false => rw [hp] at h; cases h
  | true =>
   rw [hp, cond_true] at h
   simp only [Bool.and_eq_true, beq_iff_eq] at hp
   obtain ⟨hp, rfl⟩ := hp
   obtain ⟨-, h1, h2, h3, -⟩ := prV_v hp
   obtain ⟨t, ht, rfl⟩ := Option.map_eq_some_iff.1 h
   exact spF_more (a := [a, b]) (by intro y hy; simp at hy; rcases hy with rfl | rfl <;> assumption) h3 (gr_sp ht)
 | 1, [], _, h => by cases h
 | 1, [_], _, h => by cases h
 | 1, _ :: _ :: _ :: _, _, h => by cases h
 | _ + 2, [], _, h => by cases h
 | _ + 2, [_], _, h => by cases h
 | _ + 2, [_, _], _, h => by cases h
theorem sp_gr : ∀ {k : Nat} {s : List UInt8} {l : List Int}, spF hexF 58 k s = some l → grF k s = some l ∧ s.length + 1 = 3 * k
 | 0, _, _, h => by cases h
 | k + 1, s, l, h => by
  rcases spF_back h with ⟨rfl, v, hr, rfl⟩ | ⟨x, t, v, r, rfl, hr, ht, rfl⟩
  · obtain ⟨a, b, rfl, hp, rfl⟩ := hexF_pr hr
    refine ⟨?_, rfl⟩
    unfold grF; rw [hp]; rfl
  · obtain ⟨a, b, rfl, hp, rfl⟩ := hexF_pr hr
    obtain ⟨g1, g2⟩ := sp_gr ht
    cases k with
    | zero => cases ht
    | succ k =>
     refine ⟨?_, by simp; omega⟩
     show grF (k + 2) (a :: b :: 58 :: t) = _
     unfold grF
     rw [hp, g1]; rfl
end Go.Proofs.YtpelignoebgkbaaGreatDoor
/- The reference's ParseMAC: its groups. -/
namespace Go.Proofs.YtpelignoebgkbaaGreatDoor
open Go.Am
set_option maxRecDepth 100000
/- AddrCalls: the reference's ParseMAC, ParseESI, told. -/
theorem drop_get {s t : List UInt8} {j : Nat} (h : s.drop j = t) (d : Nat) : s.getD (j + d) 0 = t.getD d 0 := by
 subst h
 simp [List.getD_eq_getElem?_getD, List.getElem?_drop]
theorem ixC_ok {s : List UInt8} {i : Int} {j : Nat} {K : Int → CTree} (hi : i = (j : Int)) (h : j < s.length) : ixC s i K = K (s.getD j 0).toNat := by
 subst hi
 unfold ixC
 rw [inB_ok (by omega) (by omega), cond_true]
 rfl
theorem ixD_ok {s : List UInt8} {i : Int} {j : Nat} {K : Int → CTree} (hi : i = (j : Int)) (h : j < s.length) : ixD s i K = K (dgR (s.getD j 0).toNat) := by
 unfold ixD
 have := (s.getD j 0).toNat_lt
 rw [ixC_ok hi h, decide_eq_true ⟨by omega, by omega⟩, cond_true]
def mtO (o : Option (List Int)) (vs : List Int) (F : CTree) (K : List Int → CTree) : CTree := match o with | some l => K (vs ++ l) | none => F
theorem two_dig {a b : UInt8} {F X : CTree} : (bif decide (dgR a.toNat < 0) then F else bif decide (dgR b.toNat < 0) then F else X) = bif prB a b then X else F := by
 unfold prB
 by_cases h : dgR a.toNat < 0
 · rw [decide_eq_true h, decide_eq_false (show ¬ 0 ≤ dgR a.toNat by omega)]; rfl
 · rw [decide_eq_false h, decide_eq_true (show 0 ≤ dgR a.toNat by omega), cond_false, Bool.true_and]
   by_cases h2 : dgR b.toNat < 0
   · rw [decide_eq_true h2, decide_eq_false (show ¬ 0 ≤ dgR b.toNat by omega)]; rfl
   · rw [decide_eq_false h2, decide_eq_true (show 0 ≤ dgR b.toNat by omega)]; rfl
theorem paR_v {s : List UInt8} {F : CTree} {K : List Int → CTree} (hs : s.length ≤ 1000) : ∀ (k n : Nat) (vs : List Int) (c a b : UInt8) (r : List UInt8), s.drop (3 * n + 2) = c :: a :: b :: r → r.length = 3 * k →
  paR s F (k + 1) ((n + 1 : Nat) : Int) vs K = mtO (bif c == 58 then grF (k + 1) (a :: b :: r) else none) vs F K
 | k, n, vs, c, a, b, r, hd, hr => by
  have hl : s.length = 3 * n + 2 + (3 + r.length) := by
   have := congrArg List.length hd
   simp only [List.length_drop, List.length_cons] at this
   omega
  have e1 : s.getD (3 * n + 3) 0 = a := drop_get hd 1
  have e2 : s.getD (3 * n + 4) 0 = b := drop_get hd 2
  have e0 : s.getD (3 * n + 2) 0 = c := drop_get hd 0
  have w3 : w64 (3 * ((n + 1 : Nat) : Int)) = ((3 * n + 3 : Nat) : Int) := by
   rw [show w64 (3 * ((n + 1 : Nat) : Int)) = 3 * ((n + 1 : Nat) : Int) from w64_id (by omega) (by omega)]; omega
  have w4 : w64 (((3 * n + 3 : Nat) : Int) + 1) = ((3 * n + 4 : Nat) : Int) := by
   rw [show w64 (((3 * n + 3 : Nat) : Int) + 1) = ((3 * n + 3 : Nat) : Int) + 1 from w64_id (by omega) (by omega)]; omega
  have w2 : w64 (((3 * n + 3 : Nat) : Int) - 1) = ((3 * n + 2 : Nat) : Int) := by
   rw [show w64 (((3 * n + 3 : Nat) : Int) - 1) = ((3 * n + 3 : Nat) : Int) - 1 from w64_id (by omega) (by omega)]; omega
  have wi : w64 (((n + 1 : Nat) : Int) + 1) = ((n + 1 + 1 : Nat) : Int) := by
   rw [show w64 (((n + 1 : Nat) : Int) + 1) = ((n + 1 : Nat) : Int) + 1 from w64_id (by omega) (by omega)]; omega
  unfold paR
  rw [w3, w4, w2, wi, ixD_ok rfl (by omega), ixD_ok rfl (by omega), e1, e2, two_dig, decide_eq_true (show ((n + 1 : Nat) : Int) > 0 by omega), cond_true, ixC_ok rfl (by omega), e0]
  have hc : (((c.toNat : Nat) : Int) != 58) = !(c == 58) := by
   rw [Bool.eq_iff_iff, bne_iff_ne, Bool.not_eq_true', beq_eq_false_iff_ne]
   constructor
   · intro h e; subst e; exact h rfl
   · intro h e
     apply h
     apply UInt8.toNat_inj.1
     show c.toNat = 58
     omega
  rw [hc]
  cases h58 : c == 58 with
  | false => simp only [Bool.not_false, cond_true, cond_false]; cases prB a b <;> rfl
  | true =>
   simp only [Bool.not_true, cond_false, cond_true]
   cases hp : prB a b with
   | false =>
    rw [cond_false]
    cases k with
    | zero =>
     have : r = [] := List.length_eq_zero_iff.1 (by omega)
     subst this
     unfold grF; rw [hp]; rfl
    | succ k =>
     match r, hr with
     | x :: r', _ => unfold grF; rw [hp]; rfl
   | true =>
    rw [cond_true]
    cases k with
    | zero =>
     have : r = [] := List.length_eq_zero_iff.1 (by omega)
     subst this
     unfold grF; rw [hp]; rfl
    | succ k =>
     match r, hr with
     | x :: y :: z :: r', hr =>
      simp only [List.length_cons] at hr
      have hd' : s.drop (3 * (n + 1) + 2) = x :: y :: z :: r' := by
       have := congrArg (List.drop 3) hd
       rw [List.drop_drop] at this
       simpa [show 3 * (n + 1) + 2 = 3 * n + 2 + 3 by omega, Nat.add_comm] using this
      have ih := paR_v (K := K) (F := F) hs k (n + 1) (vs ++ [prV a b]) x y z r' hd' (by omega)
      refine ih.trans ?_
      show _ = mtO (grF (k + 2) (a :: b :: x :: y :: z :: r')) vs F K
      rw [show grF (k + 2) (a :: b :: x :: y :: z :: r') = bif prB a b && x == 58 then (grF (k + 1) (y :: z :: r')).map (prV a b :: ·) else none from rfl, hp, Bool.true_and]
      cases x == 58 with
      | false => rfl
      | true =>
       rw [cond_true, cond_true]
       cases grF (k + 1) (y :: z :: r') with
       | none => rfl
       | some l => simp [mtO]
end Go.Proofs.YtpelignoebgkbaaGreatDoor
/- The reference's ParseMAC, known. -/
namespace Go.Proofs.YtpelignoebgkbaaGreatDoor
open Go.Am
set_option maxRecDepth 100000
/- AddrCalls: the reference's ParseMAC, ParseESI, told. -/
theorem sp_eq (k : Nat) (s : List UInt8) : spF hexF 58 k s = grF k s := by
 cases h : grF k s with
 | some l => exact gr_sp h
 | none =>
  cases h2 : spF hexF 58 k s with
  | none => rfl
  | some l => rw [(sp_gr h2).1] at h; cases h
theorem paC_v {s : List UInt8} {F : CTree} {K : List Int → CTree} {k : Nat} (hk : k ≤ 9) : paC s (k + 1) F K = mtO (spF hexF 58 (k + 1) s) [] F K := by
 have hw : w64 (w64 (3 * ((k + 1 : Nat) : Int)) - 1) = ((3 * k + 2 : Nat) : Int) := by
  rw [show w64 (3 * ((k + 1 : Nat) : Int)) = 3 * ((k + 1 : Nat) : Int) from w64_id (by omega) (by omega), show w64 (3 * ((k + 1 : Nat) : Int) - 1) = 3 * ((k + 1 : Nat) : Int) - 1 from w64_id (by omega) (by omega)]
  omega
 unfold paC
 rw [hw]
 cases hl : ((s.length : Int) != ((3 * k + 2 : Nat) : Int)) with
 | true =>
  rw [cond_true]
  cases h2 : spF hexF 58 (k + 1) s with
  | none => rfl
  | some l =>
   have := (sp_gr h2).2
   have hne : (s.length : Int) ≠ ((3 * k + 2 : Nat) : Int) := by simpa using hl
   omega
 | false =>
  have hlen : s.length = 3 * k + 2 := by
   have : (s.length : Int) = ((3 * k + 2 : Nat) : Int) := by simpa using hl
   omega
  rw [cond_false, sp_eq]
  match s, hlen with
  | a :: b :: r, hlen =>
   have hr : r.length = 3 * k := by simp only [List.length_cons] at hlen; omega
   unfold paR
   rw [show w64 (3 * 0) = ((0 : Nat) : Int) from by decide, show w64 (((0 : Nat) : Int) + 1) = ((1 : Nat) : Int) from by decide, ixD_ok rfl (by simp), ixD_ok rfl (by simp), decide_eq_false (show ¬ (0 : Int) > 0 by omega), cond_false]
   rw [show (a :: b :: r).getD 0 0 = a from rfl, show (a :: b :: r).getD 1 0 = b from rfl, two_dig]
   show (bif prB a b then paR (a :: b :: r) F k (w64 (0 + 1)) [prV a b] K else F) = _
   rw [show w64 (0 + 1) = ((0 + 1 : Nat) : Int) from by decide]
   cases hp : prB a b with
   | false =>
    cases k with
    | zero =>
     have : r = [] := List.length_eq_zero_iff.1 (by omega)
     subst this
     unfold grF; rw [hp]; rfl
    | succ k =>
     match r, hr with
     | x :: r', _ => unfold grF; rw [hp]; rfl
   | true =>
    rw [cond_true]
    cases k with
    | zero =>
     have : r = [] := List.length_eq_zero_iff.1 (by omega)
     subst this
     unfold grF; rw [hp]; rfl
    | succ k =>
     match r, hr with
     | x :: y :: z :: r', hr =>
      simp only [List.length_cons] at hr
      have ih := paR_v (s := a :: b :: x :: y :: z :: r') (K := K) (F := F) (by simp only [List.length_cons]; omega) k 0 [prV a b] x y z r' rfl (by omega)
      refine ih.trans ?_
      rw [show grF (k + 1 + 1) (a :: b :: x :: y :: z :: r') = bif prB a b && x == 58 then (grF (k + 1) (y :: z :: r')).map (prV a b :: ·) else none from rfl, hp, Bool.true_and]
      cases x == 58 with
      | false => rfl
      | true =>
       rw [cond_true, cond_true]
       cases grF (k + 1) (y :: z :: r') <;> rfl
theorem sp_bytes : ∀ {k : Nat} {s : List UInt8} {l : List Int}, grF k s = some l → bytesI l ∧ l.length = k
 | 0, _, _, h => by cases h
 | 1, [a, b], l, h => by
  unfold grF at h
  cases hp : prB a b with
  | false => rw [hp] at h; cases h
  | true =>
   rw [hp] at h; cases h
   obtain ⟨-, -, -, -, h4, h5⟩ := prV_v hp
   exact ⟨fun x hx => by simp at hx; subst hx; exact ⟨h4, h5⟩, rfl⟩
 | m + 2, a :: b :: c :: r, l, h => by
  unfold grF at h
  cases hp : prB a b && c == 58 with
  | false => rw [hp] at h; cases h
  | true =>
   rw [hp, cond_true] at h
   simp only [Bool.and_eq_true] at hp
   obtain ⟨-, -, -, -, h4, h5⟩ := prV_v hp.1
   obtain ⟨t, ht, rfl⟩ := Option.map_eq_some_iff.1 h
   obtain ⟨g1, g2⟩ := sp_bytes ht
   refine ⟨fun x hx => ?_, by simp [g2]⟩
   rcases List.mem_cons.1 hx with rfl | hx
   · exact ⟨h4, h5⟩
   · exact g1 x hx
 | 1, [], _, h => by cases h
 | 1, [_], _, h => by cases h
 | 1, _ :: _ :: _ :: _, _, h => by cases h
 | _ + 2, [], _, h => by cases h
 | _ + 2, [_], _, h => by cases h
 | _ + 2, [_, _], _, h => by cases h
theorem plMr_eq {l : List Int} (hb : bytesI l) (hl : l.length = 6) : plMr l = macO l := by
 match l, hl with
 | [a, b, c, d, e, f], _ =>
  obtain ⟨a0, a1⟩ := hb a (by simp); obtain ⟨b0, b1⟩ := hb b (by simp); obtain ⟨c0, c1⟩ := hb c (by simp); obtain ⟨d0, d1⟩ := hb d (by simp); obtain ⟨e0, e1⟩ := hb e (by simp); obtain ⟨f0, f1⟩ := hb f (by simp)
  rw [macO_v a0 a1 b0 b1 c0 c1 d0 d1 e0 e1 f0 f1]
  show plO (plO (plO (plO (plO (plO 0 a) b) c) d) e) f = _
  rw [plO_v (a := 0) (b := a) (by omega) a0 (by omega), plO_v (b := b) (by omega) b0 (by omega), plO_v (b := c) (by omega) c0 (by omega), plO_v (b := d) (by omega) d0 (by omega), plO_v (b := e) (by omega) e0 (by omega), plO_v (b := f) (by omega) f0 (by omega)]
  omega
theorem pmx_k : Known Tryz.prog 65 pmac_s := (openKnown (tbl_cons dr_k ok0) Tryz.func65 rfl).weak (by
 intro args H v ups h
 unfold pmac_s at h
 split at h
 · rename_i s
   rw [crun_ite, cond_eq_ite] at h
   split at h
   · rw [← h]
     refine (congrArg crun (pmx_t s)).trans ?_
     rw [paC_v (k := 5) (by omega)]
     unfold pmacV
     cases hq : spF hexF 58 6 s with
     | none => rfl
     | some l =>
      rw [sp_eq] at hq
      obtain ⟨hb, hl⟩ := sp_bytes hq
      simp only [mtO, List.nil_append]
      rw [plMr_eq hb hl]
   · cases h
 · cases h)
end Go.Proofs.YtpelignoebgkbaaGreatDoor
/- The reference's groups and digits. -/
namespace Go.Proofs.YtpelignoebgkbaaGreatDoor
open Go.Am
set_option maxRecDepth 100000
/- AddrCalls: the reference's group, digit, Digits: by closed enumeration. -/
theorem gp_all : ((List.range 256).all fun k => eqR (.str [hx (hiD ((k : Nat) : Int)), hx (loD ((k : Nat) : Int))]) [] (crun (opn (tbl []) Tryz.f96 [.int .u8 ((k : Nat) : Int)] []))) = true := by kernel_rfl
noncomputable def gp_s : CSumm := fun args H => match args, H with
 | [.int .u8 v], [] => .ite (decide (0 ≤ v ∧ v ≤ 255)) (.ret (.str [hx (hiD v), hx (loD v)]) []) .fail
 | _, _ => .fail
theorem gp_k : Known Tryz.prog 96 gp_s := (openKnown ok0 Tryz.func96 rfl).weak (by
 intro args H v ups h
 unfold gp_s at h
 split at h
 · rename_i n
   rw [crun_ite, cond_eq_ite] at h
   split at h
   · rename_i hc
     obtain ⟨h0, h1⟩ := of_decide_eq_true hc
     have := List.all_eq_true.1 gp_all n.toNat (List.mem_range.2 (by omega))
     rw [show ((n.toNat : Nat) : Int) = n by omega] at this
     exact (eqR_eq this).trans h
   · cases h
 · cases h)
theorem ds_all : ((List.range 256).all fun k => eqR (.str (dcB ((k : Nat) : Int))) [] (crun (opn (tbl []) Tryz.f78 [.int .i64 ((k : Nat) : Int)] []))) = true := by kernel_rfl
noncomputable def ds_s : CSumm := fun args H => match args, H with
 | [.int .i64 v], [] => .ite (decide (0 ≤ v ∧ v ≤ 255)) (.ret (.str (dcB v)) []) .fail
 | _, _ => .fail
theorem ds_k : Known Tryz.prog 78 ds_s := (openKnown ok0 Tryz.func78 rfl).weak (by
 intro args H v ups h
 unfold ds_s at h
 split at h
 · rename_i n
   rw [crun_ite, cond_eq_ite] at h
   split at h
   · rename_i hc
     obtain ⟨h0, h1⟩ := of_decide_eq_true hc
     have := List.all_eq_true.1 ds_all n.toNat (List.mem_range.2 (by omega))
     rw [show ((n.toNat : Nat) : Int) = n by omega] at this
     exact (eqR_eq this).trans h
   · cases h
 · cases h)
end Go.Proofs.YtpelignoebgkbaaGreatDoor
/- The reference's texts: trees. -/
namespace Go.Proofs.YtpelignoebgkbaaGreatDoor
open Go.Am
set_option maxRecDepth 100000
/- AddrCalls: the reference's texts. -/
def rgC : List Int → CTree → CTree
 | [], K => K
 | x :: r, K => bif decide (0 ≤ x ∧ x ≤ 255) then rgC r K else .fail
theorem rgC_ok {K : CTree} : ∀ {l : List Int}, bytesI l → rgC l K = K
 | [], _ => rfl
 | x :: r, h => by
  unfold rgC
  rw [decide_eq_true (h x (by simp)), cond_true]
  exact rgC_ok fun y hy => h y (by simp [hy])
theorem max_t (m : Int) : opn (tbl [(96, gp_s)]) Tryz.f51 [.int .u64 m] [] = bif decide (m > 281474976710655) then .ret (.tup [.str [], .int .i64 2]) [] else rgC (macL m) (.ret (.tup [.str (pairsL (macL m)), .int .i64 0]) []) := by kernel_rfl
def adC (a b : List UInt8) (K : List UInt8 → CTree) : CTree := bif decide (a.length + b.length ≤ 9223372036854775807) then K (a ++ b) else .fail
def dsC (v : Int) (K : List UInt8 → CTree) : CTree := bif decide (0 ≤ v ∧ v ≤ 255) then K (dcB v) else .fail
def octR (ip : Int) (k : Nat) : Int := w64 (andI .u32 (ip.fdiv (2 ^ k)) 255)
def oct3 (ip : Int) : Int := w64 (ip.fdiv (2 ^ 24))
def and0 (ip : Int) : Int := w64 (andI .u32 ip 255)
theorem ipx_t (ip : Int) : opn (tbl [(78, ds_s)]) Tryz.f52 [.int .u32 ip] [] = dsC (oct3 ip) fun a => adC a [46] fun a => dsC (octR ip 16) fun b => adC a b fun a => adC a [46] fun a => dsC (octR ip 8) fun b => adC a b fun a => adC a [46] fun a => dsC (and0 ip) fun b => adC a b fun a => .ret (.str a) [] := by kernel_rfl
end Go.Proofs.YtpelignoebgkbaaGreatDoor
/- The reference's texts, known. -/
namespace Go.Proofs.YtpelignoebgkbaaGreatDoor
open Go.Am
set_option maxRecDepth 100000
def u32B (a : Int) : Bool := decide (0 ≤ a) && decide (a < 4294967296)
theorem u32B_iff {a : Int} : u32B a = true ↔ 0 ≤ a ∧ a < 4294967296 := by simp [u32B]
theorem max_k : Known Tryz.prog 51 mact_s := (openKnown (tbl_cons gp_k ok0) Tryz.func51 rfl).weak (by
 intro args H v ups h
 unfold mact_s at h
 split at h
 · rename_i m
   refine (congrArg crun (max_t m)).trans ?_
   rw [rgC_ok (macL_bytes m), ← h]
   unfold mactV
   cases decide (m > 281474976710655) <;> rfl
 · cases h)
theorem adC_ok {a b : List UInt8} {K : List UInt8 → CTree} (h : a.length + b.length ≤ 9223372036854775807) : adC a b K = K (a ++ b) := by
 unfold adC; rw [decide_eq_true h, cond_true]
theorem dsC_ok {v : Int} {K : List UInt8 → CTree} (h0 : 0 ≤ v) (h1 : v ≤ 255) : dsC v K = K (dcB v) := by
 unfold dsC; rw [decide_eq_true ⟨h0, h1⟩, cond_true]
theorem and_rng (x : Int) : 0 ≤ andI .u32 x 255 ∧ andI .u32 x 255 ≤ 255 := by
 unfold andI
 have hle : (BitVec.ofInt IntKind.u32.bits x &&& BitVec.ofInt IntKind.u32.bits 255).toNat ≤ 255 := by
  rw [BitVec.toNat_and]
  have : (BitVec.ofInt IntKind.u32.bits 255).toNat = 255 := by decide
  rw [this]
  exact Nat.and_le_right
 generalize (BitVec.ofInt IntKind.u32.bits x &&& BitVec.ofInt IntKind.u32.bits 255).toNat = n at *
 have e : IntKind.u32.wrap (n : Int) = n := by simp [IntKind.wrap, IntKind.bits, IntKind.signed]; omega
 rw [e]
 omega
theorem octR_eq (ip : Int) (k : Nat) : octR ip k = octI ip k := by
 obtain ⟨h0, h1⟩ := and_rng (ip.fdiv (2 ^ k))
 unfold octR octI
 rw [wu64_idU h0 (by omega)]
 exact w64_id (by omega) (by omega)
theorem and0_eq (ip : Int) : and0 ip = octI ip 0 := by
 rw [← octR_eq]
 unfold and0 octR
 rw [show ip.fdiv (2 ^ 0) = ip by simp]
theorem oct3_eq {ip : Int} (h0 : 0 ≤ ip) (h1 : ip < 4294967296) : oct3 ip = octI ip 24 := by
 rw [(oct24 h0 h1).1]
 unfold oct3
 rw [Int.fdiv_eq_ediv_of_nonneg _ (by decide), show (2 : Int) ^ 24 = 16777216 by decide, show w64 (ip / 16777216) = ip / 16777216 from w64_id (by omega) (by omega)]
 omega
noncomputable def ipx_s : CSumm := fun args H => match args, H with
 | [.int .u32 ip], [] => .ite (u32B ip) (.ret (.str (ipB ip)) []) .fail
 | _, _ => .fail
theorem ipx_k : Known Tryz.prog 52 ipx_s := (openKnown (tbl_cons ds_k ok0) Tryz.func52 rfl).weak (by
 intro args H v ups h
 unfold ipx_s at h
 split at h
 · rename_i ip
   rw [crun_ite] at h
   cases hc : u32B ip with
   | false => rw [hc] at h; cases h
   | true =>
    rw [hc, cond_true] at h
    obtain ⟨h0, h1⟩ := u32B_iff.1 hc
    rw [← h]
    refine (congrArg crun (ipx_t ip)).trans ?_
    rw [oct3_eq h0 h1, octR_eq, octR_eq, and0_eq]
    have la := dcB_len (octI ip 24); have lb := dcB_len (octI ip 16); have lc := dcB_len (octI ip 8); have ld := dcB_len (octI ip 0)
    rw [dsC_ok (octI_rng ip 24).1 (octI_rng ip 24).2, adC_ok (by simp only [List.length_append, List.length_cons, List.length_nil]; omega), dsC_ok (octI_rng ip 16).1 (octI_rng ip 16).2, adC_ok (by simp only [List.length_append, List.length_cons, List.length_nil]; omega), adC_ok (by simp only [List.length_append, List.length_cons, List.length_nil]; omega), dsC_ok (octI_rng ip 8).1 (octI_rng ip 8).2, adC_ok (by simp only [List.length_append, List.length_cons, List.length_nil]; omega), adC_ok (by simp only [List.length_append, List.length_cons, List.length_nil]; omega), dsC_ok (octI_rng ip 0).1 (octI_rng ip 0).2, adC_ok (by simp only [List.length_append, List.length_cons, List.length_nil]; omega)]
    unfold ipB
    simp only [List.append_assoc, List.singleton_append, List.cons_append, List.nil_append]
 · cases h)
end Go.Proofs.YtpelignoebgkbaaGreatDoor
/- The reference's Number and ParseIP. -/
namespace Go.Proofs.YtpelignoebgkbaaGreatDoor
open Go.Am
set_option maxRecDepth 100000
/- AddrCalls: the reference's Number: its loop. -/
def nuS : List UInt8 → Int → Option Int
 | [], v => some v
 | c :: cs, v => bif decide (48 ≤ c.toNat) && decide (c.toNat ≤ 57) then nuS cs (10 * v + ((c.toNat : Int) - 48)) else none
def nuOk (s : List UInt8) (v i : Int) : Prop := 0 ≤ v ∧ v < 10 ^ i.toNat ∧ s.length ≤ 10 ∧ 0 ≤ i ∧ i ≤ s.length
noncomputable def body73 : Code := Tryz.f66.body.getD .skip
noncomputable def c73 : Code := (loopAt 5 body73).getD .skip
noncomputable def nu_s : CSumm := fun args H => match args, H with
 | [.str s, .int .i64 v, .int .i64 i], [] => .ite (dec (nuOk s v i)) (.ite (nuS (s.drop i.toNat) v).isSome (.ret (.tup [.int .i64 2, .junk, .junk, .int .i64 ((nuS (s.drop i.toNat) v).getD 0)]) [])
   (.ret (.tup [.int .i64 1, .int .i64 0, .bool false, .junk]) [])) .fail
 | _, _ => .fail
def nuM : List SV → HpL → Nat
 | [.str s, _, .int _ i], _ => ((s.length : Int) - i).toNat
 | _, _ => 0
noncomputable def e73 : LEnt := { ins := [0, 6, 7], outs := [4, 5, 6], keep := [1], size := 53, code := c73, s := nu_s }
noncomputable def nuN (N : Nat) (s : List UInt8) (v i : Int) : CTree := bif Nat.blt ((s.length : Int) - i).toNat N then bif dec (nuOk s v i) then bif (nuS (s.drop i.toNat) v).isSome then (.ret (.tup [.int .i64 2, .junk, .junk, .int .i64 ((nuS (s.drop i.toNat) v).getD 0)]) [])
      else (.ret (.tup [.int .i64 1, .int .i64 0, .bool false, .junk]) []) else .fail else .fail
def nuR (v : Int) : CTree := .ret (.tup [.int .i64 1, .int .i64 0, .bool false, .int .i64 v]) []
noncomputable def nuX (N : Nat) (s : List UInt8) (v i c : Int) : CTree := bif decide (c < 48) then nuR v else bif inB i s.length then bif decide (c > 57) then nuR v else bif inB i s.length then nuN N s (w64 (w64 (10 * v) + w64 (w8 (c - 48)))) (w64 (i + 1)) else .fail else .fail
theorem nu_t (N : Nat) (s : List UInt8) (v i : Int) : loopOnce Tryz.prog κ0 (fun _ => false) (ltab []) true 300 e73 { e73 with s := boundT nuM nu_s N } c73 [.str s, .int .i64 v, .int .i64 i] [] =
 bif decide (i < s.length) then bif inB i s.length then nuX N s v i ((s.getD i.toNat 0).toNat : Int) else .fail else .ret (.tup [.int .i64 2, .junk, .junk, .int .i64 v]) [] := by kernel_rfl
end Go.Proofs.YtpelignoebgkbaaGreatDoor
/- The reference's Number and ParseIP. -/
namespace Go.Proofs.YtpelignoebgkbaaGreatDoor
open Go.Am
set_option maxRecDepth 100000
/- AddrCalls: the reference's Number: its loop, valid. -/
theorem nuX_eq {N : Nat} {s : List UInt8} {v i c : Int} (hi : inB i s.length = true) (c0 : 0 ≤ c) (c1 : c ≤ 255) (v0 : 0 ≤ v) (v1 : v < 10 ^ 10) : nuX N s v i c = bif decide (48 ≤ c) && decide (c ≤ 57) then nuN N s (10 * v + (c - 48)) (w64 (i + 1)) else nuR v := by
 have hp : (10 : Int) ^ 10 = 10000000000 := by decide
 unfold nuX
 by_cases a1 : c < 48
 · rw [decide_eq_true a1, decide_eq_false (show ¬ 48 ≤ c by omega)]; rfl
 · rw [decide_eq_false a1, cond_false, hi, cond_true, decide_eq_true (show 48 ≤ c by omega), Bool.true_and]
   by_cases a2 : c > 57
   · rw [decide_eq_true a2, decide_eq_false (show ¬ c ≤ 57 by omega)]; rfl
   · rw [decide_eq_false a2, decide_eq_true (show c ≤ 57 by omega), cond_false, cond_true, cond_true, show w8 (c - 48) = c - 48 from w8_id (by omega) (by omega), show w64 (c - 48) = c - 48 from w64_id (by omega) (by omega), show w64 (10 * v) = 10 * v from w64_id (by omega) (by omega), show w64 (10 * v + (c - 48)) = 10 * v + (c - 48) from w64_id (by omega) (by omega)]
end Go.Proofs.YtpelignoebgkbaaGreatDoor
