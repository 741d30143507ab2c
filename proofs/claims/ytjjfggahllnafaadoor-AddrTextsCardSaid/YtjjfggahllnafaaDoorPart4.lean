/- What is written is parsed; what is parsed was written. -/
import Derived.Test.YtjjfggahllnafaaDoorPart3
import Derived.ChangeSame
import Derived.ChangeVars
import Derived.RowKit
import Derived.LaidLaws
import Derived.MakeChecks
import Derived.Lib.LaidTab
import Derived.Lay
import Derived.SevenTiedAt
import Derived.Test.YtjjfggahllnafaaDoorTie
import Derived.Test.YtjjfggahllnafaaDoorCards
set_option linter.unusedVariables false
set_option linter.unusedSimpArgs false
namespace Go.Proofs.YtjjfggahllnafaaDoor
open Go.Am
set_option maxRecDepth 100000
/- Cuts. -/
theorem cut_app (c : UInt8) : ∀ (a r : List UInt8), (∀ x ∈ a, x ≠ c) → cutF c (a ++ c :: r) = (a, r, true)
 | [], r, _ => by unfold cutF; simp
 | x :: a, r, h => by
  have hx : (x == c) = false := by simpa using h x (by simp)
  rw [List.cons_append]
  unfold cutF
  rw [hx, cond_false, cut_app c a r (fun y hy => h y (by simp [hy]))]
theorem cut_none (c : UInt8) : ∀ (a : List UInt8), (∀ x ∈ a, x ≠ c) → cutF c a = (a, [], false)
 | [], _ => rfl
 | x :: a, h => by
  have hx : (x == c) = false := by simpa using h x (by simp)
  unfold cutF
  rw [hx, cond_false, cut_none c a (fun y hy => h y (by simp [hy]))]
theorem cut_back (c : UInt8) : ∀ (s h t : List UInt8), cutF c s = (h, t, true) → s = h ++ c :: t
 | [], h, t, e => by simp [cutF] at e
 | x :: s, h, t, e => by
  unfold cutF at e
  cases hx : x == c with
  | true =>
   rw [hx, cond_true] at e
   have : x = c := by simpa using hx
   cases e; rw [this]; rfl
  | false =>
   rw [hx, cond_false] at e
   simp only [Prod.mk.injEq] at e
   obtain ⟨rfl, e2, e3⟩ := e
   have := cut_back c s (cutF c s).1 t (by rw [← e2, ← e3])
   rw [List.cons_append, ← this]
theorem cut_whole (c : UInt8) : ∀ (s : List UInt8), (cutF c s).2.2 = false → (cutF c s).1 = s ∧ (cutF c s).2.1 = []
 | [], _ => ⟨rfl, rfl⟩
 | x :: s, e => by
  unfold cutF at e ⊢
  cases hx : x == c with
  | true => rw [hx] at e; cases e
  | false =>
   rw [hx, cond_false] at e
   rw [cond_false]
   obtain ⟨h1, h2⟩ := cut_whole c s e
   exact ⟨by rw [h1], h2⟩
/- Decimal numbers. -/
theorem dec_all : ((List.range 256).all fun k => decide (decF 255 (dcB ((k : Nat) : Int)) = (((k : Nat) : Int), true)) && (dcB ((k : Nat) : Int)).all (fun b => decide (b ≠ 46 ∧ b ≠ 47))) = true := by kernel_rfl
theorem dec_rt {v : Int} (h0 : 0 ≤ v) (h1 : v ≤ 255) : decF 255 (dcB v) = (v, true) ∧ ∀ b ∈ dcB v, b ≠ 46 ∧ b ≠ 47 := by
 have := List.all_eq_true.1 dec_all v.toNat (List.mem_range.2 (by omega))
 rw [show ((v.toNat : Nat) : Int) = v by omega, Bool.and_eq_true] at this
 exact ⟨of_decide_eq_true this.1, fun b hb => of_decide_eq_true (List.all_eq_true.1 this.2 b hb)⟩
theorem dec32_all : ((List.range 33).all fun k => decide (decF 32 (dcB ((k : Nat) : Int)) = (((k : Nat) : Int), true))) = true := by kernel_rfl
theorem dec32_rt {v : Int} (h0 : 0 ≤ v) (h1 : v ≤ 32) : decF 32 (dcB v) = (v, true) := by
 have := List.all_eq_true.1 dec32_all v.toNat (List.mem_range.2 (by omega))
 rw [show ((v.toNat : Nat) : Int) = v by omega] at this
 exact of_decide_eq_true this
theorem dig10_all : ((List.range 256).all fun k => bif decide (dgt ((k : Nat) : Int) 10 < 10) then decide (48 ≤ k ∧ k ≤ 57 ∧ dgt ((k : Nat) : Int) 10 = ((k : Nat) : Int) - 48) else true) = true := by kernel_rfl
theorem dig10 {c : UInt8} (h : dgt c.toNat 10 < 10) : 48 ≤ c.toNat ∧ c.toNat ≤ 57 ∧ dgt c.toNat 10 = (c.toNat : Int) - 48 := by
 have := List.all_eq_true.1 dig10_all c.toNat (List.mem_range.2 c.toNat_lt)
 rw [decide_eq_true h, cond_true] at this
 exact of_decide_eq_true this
theorem dgS_cons {l v w : Int} {c : UInt8} {cs : List UInt8} (h : dgS 10 l (c :: cs) v = some w) : 48 ≤ c.toNat ∧ c.toNat ≤ 57 ∧ v * 10 + ((c.toNat : Int) - 48) ≤ l ∧ dgS 10 l cs (v * 10 + ((c.toNat : Int) - 48)) = some w := by
 unfold dgS at h
 cases hq : (bif decide (dgt c.toNat 10 ≥ 10) then true else decide (v * 10 + dgt c.toNat 10 > l)) with
 | true => rw [hq] at h; cases h
 | false =>
  rw [hq, cond_false] at h
  by_cases a1 : dgt c.toNat 10 ≥ 10
  · rw [decide_eq_true a1] at hq; cases hq
  · rw [decide_eq_false a1, cond_false] at hq
    have a2 := of_decide_eq_false hq
    obtain ⟨h1, h2, h3⟩ := dig10 (c := c) (by omega)
    rw [h3] at a2 h
    exact ⟨h1, h2, by omega, h⟩
theorem chD_c {c : UInt8} {n : Int} (h0 : 48 ≤ c.toNat) (h1 : c.toNat ≤ 57) (hn : n = (c.toNat : Int) - 48) : chD n = c := by
 apply UInt8.toNat_inj.1
 have := chD_nat (n := n) (by omega) (by omega)
 omega
theorem dec_back {l v : Int} {s : List UInt8} (hl : l ≤ 255) (h : decF l s = (v, true)) : s = dcB v ∧ 0 ≤ v ∧ v ≤ l := by
 unfold decF at h
 cases hz : z1 s with
 | true => rw [hz] at h; cases h
 | false =>
  rw [hz, cond_false] at h
  unfold dgV at h
  cases hq : dgS 10 l s 0 with
  | none => rw [hq] at h; cases h
  | some w =>
   rw [hq] at h
   simp only [Prod.mk.injEq, decide_eq_true_eq] at h
   obtain ⟨rfl, hlen⟩ := h
   match s, hlen, hq, hz with
   | [c1], _, hq, _ =>
    obtain ⟨a1, a2, a3, h1⟩ := dgS_cons hq
    simp only [dgS, Option.some.injEq] at h1
    have e1 : chD w = c1 := chD_c a1 a2 (by omega)
    refine ⟨?_, by omega, by omega⟩
    unfold dcB
    rw [decide_eq_true (show w < 10 by omega), cond_true, e1]
   | [c1, c2], _, hq, hz =>
    obtain ⟨a1, a2, a3, h1⟩ := dgS_cons hq
    obtain ⟨b1, b2, b3, h2⟩ := dgS_cons h1
    simp only [dgS, Option.some.injEq] at h2
    have hne : c1.toNat ≠ 48 := by
     intro hc
     unfold z1 at hz
     simp [hc] at hz
    have e1 : chD (w / 10) = c1 := chD_c a1 a2 (by omega)
    have e2 : chD (w % 10) = c2 := chD_c b1 b2 (by omega)
    refine ⟨?_, by omega, by omega⟩
    unfold dcB
    rw [decide_eq_false (show ¬ w < 10 by omega), cond_false, decide_eq_true (show w < 100 by omega), cond_true, e1, e2]
   | [c1, c2, c3], _, hq, hz =>
    obtain ⟨a1, a2, a3, h1⟩ := dgS_cons hq
    obtain ⟨b1, b2, b3, h2⟩ := dgS_cons h1
    obtain ⟨d1, d2, d3', h3⟩ := dgS_cons h2
    simp only [dgS, Option.some.injEq] at h3
    have hne : c1.toNat ≠ 48 := by
     intro hc
     unfold z1 at hz
     simp [hc] at hz
    have e1 : chD (w / 100) = c1 := chD_c a1 a2 (by omega)
    have e2 : chD (w / 10 % 10) = c2 := chD_c b1 b2 (by omega)
    have e3 : chD (w % 10) = c3 := chD_c d1 d2 (by omega)
    refine ⟨?_, by omega, by omega⟩
    unfold dcB
    rw [decide_eq_false (show ¬ w < 10 by omega), cond_false, decide_eq_false (show ¬ w < 100 by omega), cond_false, e1, e2, e3]
   | c1 :: c2 :: c3 :: c4 :: r, _, hq, hz =>
    exfalso
    obtain ⟨a1, a2, a3, h1⟩ := dgS_cons hq
    obtain ⟨b1, b2, b3, h2⟩ := dgS_cons h1
    obtain ⟨d1, d2, d3', h3⟩ := dgS_cons h2
    obtain ⟨f1, f2, f3, h4⟩ := dgS_cons h3
    have hne : c1.toNat ≠ 48 := by
     intro hc
     unfold z1 at hz
     simp [hc] at hz
     omega
    omega
/- Pairs of digits. -/
theorem hex_all : ((List.range 256).all fun k => decide (hexF [hx (hiD ((k : Nat) : Int)), hx (loD ((k : Nat) : Int))] = (((k : Nat) : Int), true)) && decide (hx (hiD ((k : Nat) : Int)) ≠ 58 ∧ hx (loD ((k : Nat) : Int)) ≠ 58)) = true := by kernel_rfl
theorem hex_rt {v : Int} (h0 : 0 ≤ v) (h1 : v ≤ 255) : hexF [hx (hiD v), hx (loD v)] = (v, true) ∧ hx (hiD v) ≠ 58 ∧ hx (loD v) ≠ 58 := by
 have := List.all_eq_true.1 hex_all v.toNat (List.mem_range.2 (by omega))
 rw [show ((v.toNat : Nat) : Int) = v by omega, Bool.and_eq_true] at this
 exact ⟨of_decide_eq_true this.1, of_decide_eq_true this.2⟩
theorem dig16_all : ((List.range 256).all fun k => bif decide (dgt ((k : Nat) : Int) 16 < 16) then decide (0 ≤ dgt ((k : Nat) : Int) 16 ∧ hx (dgt ((k : Nat) : Int) 16) = lowB (UInt8.ofNat k)) else true) = true := by kernel_rfl
theorem dig16 {c : UInt8} (h : dgt c.toNat 16 < 16) : 0 ≤ dgt c.toNat 16 ∧ hx (dgt c.toNat 16) = lowB c := by
 have := List.all_eq_true.1 dig16_all c.toNat (List.mem_range.2 c.toNat_lt)
 rw [decide_eq_true h, cond_true] at this
 have h2 := of_decide_eq_true this
 rw [show UInt8.ofNat c.toNat = c by simp] at h2
 exact h2
theorem dgS16_cons {v w : Int} {c : UInt8} {cs : List UInt8} (h : dgS 16 255 (c :: cs) v = some w) : dgt c.toNat 16 < 16 ∧ dgS 16 255 cs (v * 16 + dgt c.toNat 16) = some w := by
 unfold dgS at h
 cases hq : (bif decide (dgt c.toNat 16 ≥ 16) then true else decide (v * 16 + dgt c.toNat 16 > 255)) with
 | true => rw [hq] at h; cases h
 | false =>
  rw [hq, cond_false] at h
  by_cases a1 : dgt c.toNat 16 ≥ 16
  · rw [decide_eq_true a1] at hq; cases hq
  · exact ⟨by omega, h⟩
theorem hex_back {v : Int} {s : List UInt8} (h : hexF s = (v, true)) : [hx (hiD v), hx (loD v)] = s.map lowB ∧ 0 ≤ v ∧ v ≤ 255 := by
 unfold hexF at h
 cases hz : ((s.length : Int) != 2) with
 | true => rw [hz] at h; cases h
 | false =>
  rw [hz, cond_false] at h
  have h2 : s.length = 2 := by
   have : (s.length : Int) = 2 := by simpa using hz
   omega
  unfold dgV at h
  cases hq : dgS 16 255 s 0 with
  | none => rw [hq] at h; cases h
  | some w =>
   rw [hq] at h
   simp only [Prod.mk.injEq, decide_eq_true_eq] at h
   obtain ⟨rfl, -⟩ := h
   match s, h2, hq with
   | [c1, c2], _, hq =>
    obtain ⟨a1, h1⟩ := dgS16_cons hq
    obtain ⟨b1, h2⟩ := dgS16_cons h1
    simp only [dgS, Option.some.injEq] at h2
    obtain ⟨a0, ha⟩ := dig16 a1
    obtain ⟨b0, hb⟩ := dig16 b1
    have hw0 : 0 ≤ w := by omega
    have hw1 : w ≤ 255 := by omega
    obtain ⟨n1, n2⟩ := nib hw0 hw1
    refine ⟨?_, hw0, hw1⟩
    rw [n1, n2, show w / 16 = dgt c1.toNat 16 by omega, show w % 16 = dgt c2.toNat 16 by omega, ha, hb]
    rfl
end Go.Proofs.YtjjfggahllnafaaDoor
/- What is written is parsed; what is parsed was written: addresses. -/
namespace Go.Proofs.YtjjfggahllnafaaDoor
open Go.Am
set_option maxRecDepth 100000
theorem spF_last {rd : List UInt8 → Int × Bool} {c : UInt8} {s : List UInt8} {v : Int} (hc : ∀ x ∈ s, x ≠ c) (hr : rd s = (v, true)) : spF rd c 1 s = some [v] := by
 unfold spF; rw [cut_none c s hc]; simp only []; rw [hr]; rfl
theorem spF_more {rd : List UInt8 → Int × Bool} {c : UInt8} {a t : List UInt8} {v : Int} {m : Nat} {l : List Int} (hc : ∀ x ∈ a, x ≠ c) (hr : rd a = (v, true)) (ht : spF rd c m t = some l) : spF rd c (m + 1) (a ++ c :: t) = some (v :: l) := by
 unfold spF; rw [cut_app c a t hc]; simp only []; rw [hr, ht]; rfl
theorem spF_back {rd : List UInt8 → Int × Bool} {c : UInt8} {m : Nat} {s : List UInt8} {l : List Int} (h : spF rd c (m + 1) s = some l) :
  (m = 0 ∧ ∃ v, rd s = (v, true) ∧ l = [v]) ∨ ∃ a t v r, s = a ++ c :: t ∧ rd a = (v, true) ∧ spF rd c m t = some r ∧ l = v :: r := by
 unfold spF at h
 cases hr : !(rd (cutF c s).1).2 with
 | true => rw [hr] at h; cases h
 | false =>
  have hr2 : rd (cutF c s).1 = ((rd (cutF c s).1).1, true) := by
   have : (rd (cutF c s).1).2 = true := by simpa using hr
   exact Prod.ext rfl this
  rw [hr, cond_false] at h
  cases hm : !(cutF c s).2.2 with
  | true =>
   rw [hm, cond_true] at h
   have hf : (cutF c s).2.2 = false := by simpa using hm
   obtain ⟨h1, _⟩ := cut_whole c s hf
   rw [h1] at hr2 h
   cases m with
   | zero => left; refine ⟨rfl, _, hr2, ?_⟩; cases h; rfl
   | succ m => cases h
  | false =>
   rw [hm, cond_false] at h
   have hf : (cutF c s).2.2 = true := by simpa using hm
   have hs := cut_back c s (cutF c s).1 (cutF c s).2.1 (by rw [← hf])
   cases hq : spF rd c m (cutF c s).2.1 with
   | none => rw [hq] at h; cases h
   | some r =>
    rw [hq] at h
    right
    refine ⟨_, _, _, r, hs, hr2, hq, ?_⟩
    cases h; rfl
/- Pairs of digits. -/
theorem pairs_rt : ∀ {l : List Int}, bytesI l → l ≠ [] → spF hexF 58 l.length (pairsL l) = some l
 | [], _, h => absurd rfl h
 | [x], hb, _ => by
  obtain ⟨h0, h1⟩ := hb x (by simp)
  obtain ⟨g1, g2, g3⟩ := hex_rt h0 h1
  exact spF_last (by intro y hy; have hy : y ∈ [hx (hiD x), hx (loD x)] := hy; simp at hy; rcases hy with rfl | rfl <;> assumption) g1
 | x :: y :: r, hb, _ => by
  obtain ⟨h0, h1⟩ := hb x (by simp)
  obtain ⟨g1, g2, g3⟩ := hex_rt h0 h1
  have ih := pairs_rt (l := y :: r) (fun z hz => hb z (by simp only [List.mem_cons] at hz ⊢; exact .inr hz)) (by simp)
  exact spF_more (a := [hx (hiD x), hx (loD x)]) (by intro z hz; simp at hz; rcases hz with rfl | rfl <;> assumption) g1 ih
theorem low58 : lowB 58 = 58 := by kernel_rfl
theorem pairs_back : ∀ {m : Nat} {s : List UInt8} {l : List Int}, spF hexF 58 m s = some l → pairsL l = s.map lowB ∧ bytesI l ∧ l.length = m
 | 0, _, _, h => by cases h
 | m + 1, s, l, h => by
  rcases spF_back h with ⟨rfl, v, hr, rfl⟩ | ⟨a, t, v, r, rfl, hr, ht, rfl⟩
  · obtain ⟨h1, h2, h3⟩ := hex_back hr
    exact ⟨h1, fun x hx => by simp at hx; subst hx; exact ⟨h2, h3⟩, rfl⟩
  · obtain ⟨h1, h2, h3⟩ := hex_back hr
    obtain ⟨g1, g2, g3⟩ := pairs_back ht
    refine ⟨?_, fun x hx => ?_, by simp [g3]⟩
    · cases r with
      | nil =>
       have : m = 0 := by simpa using g3.symm
       subst this; cases ht
      | cons y r =>
       rw [List.map_append, ← h1, List.map_cons, low58, ← g1]
       rfl
    · rcases List.mem_cons.1 hx with rfl | hx
      · exact ⟨h2, h3⟩
      · exact g2 x hx
/- Decimal numbers. -/
def jn : List Int → List UInt8
 | [] => []
 | [v] => dcB v
 | v :: w :: r => dcB v ++ 46 :: jn (w :: r)
theorem jn_rt : ∀ {l : List Int}, bytesI l → l ≠ [] → spF (decF 255) 46 l.length (jn l) = some l
 | [], _, h => absurd rfl h
 | [x], hb, _ => by
  obtain ⟨h0, h1⟩ := hb x (by simp)
  obtain ⟨g1, g2⟩ := dec_rt h0 h1
  exact spF_last (fun y hy => (g2 y hy).1) g1
 | x :: y :: r, hb, _ => by
  obtain ⟨h0, h1⟩ := hb x (by simp)
  obtain ⟨g1, g2⟩ := dec_rt h0 h1
  have ih := jn_rt (l := y :: r) (fun z hz => hb z (by simp only [List.mem_cons] at hz ⊢; exact .inr hz)) (by simp)
  exact spF_more (fun z hz => (g2 z hz).1) g1 ih
theorem jn_back : ∀ {m : Nat} {s : List UInt8} {l : List Int}, spF (decF 255) 46 m s = some l → jn l = s ∧ bytesI l ∧ l.length = m
 | 0, _, _, h => by cases h
 | m + 1, s, l, h => by
  rcases spF_back h with ⟨rfl, v, hr, rfl⟩ | ⟨a, t, v, r, rfl, hr, ht, rfl⟩
  · obtain ⟨h1, h2, h3⟩ := dec_back (by decide) hr
    exact ⟨h1.symm, fun x hx => by simp at hx; subst hx; exact ⟨h2, h3⟩, rfl⟩
  · obtain ⟨h1, h2, h3⟩ := dec_back (by decide) hr
    obtain ⟨g1, g2, g3⟩ := jn_back ht
    refine ⟨?_, fun x hx => ?_, by simp [g3]⟩
    · cases r with
      | nil =>
       have : m = 0 := by simpa using g3.symm
       subst this; cases ht
      | cons y r =>
       rw [h1, ← g1]
       rfl
    · rcases List.mem_cons.1 hx with rfl | hx
      · exact ⟨h2, h3⟩
      · exact g2 x hx
/- Addresses. -/
theorem ip_bytes (ip : Int) : bytesI [octI ip 24, octI ip 16, octI ip 8, octI ip 0] := by
 intro x hx
 simp only [List.mem_cons, List.not_mem_nil, or_false] at hx
 rcases hx with rfl | rfl | rfl | rfl <;> exact octI_rng _ _
theorem ip_rt {ip : Int} (h0 : 0 ≤ ip) (h1 : ip < 4294967296) : pipV (ipB ip) = (ip, 0) := by
 have h := jn_rt (ip_bytes ip) (by simp)
 have e : ipB ip = jn [octI ip 24, octI ip 16, octI ip 8, octI ip 0] := rfl
 unfold pipV
 rw [e]
 change spF (decF 255) 46 4 _ = _ at h
 rw [h]
 obtain ⟨a0, a1⟩ := octI_rng ip 24; obtain ⟨b0, b1⟩ := octI_rng ip 16; obtain ⟨c0, c1⟩ := octI_rng ip 8; obtain ⟨d0, d1⟩ := octI_rng ip 0
 obtain ⟨e1, e2, e3, e4⟩ := oct24 h0 h1
 simp only []
 rw [ipO_v a0 a1 b0 b1 c0 c1 d0 d1, e1, e2, e3, e4]
 refine Prod.ext ?_ rfl
 show ((ip / 16777216 % 256 * 256 + ip / 65536 % 256) * 256 + ip / 256 % 256) * 256 + ip % 256 = ip
 omega
theorem len4 {l : List Int} (h : l.length = 4) : ∃ a b c d, l = [a, b, c, d] := by
 match l, h with
 | [a, b, c, d], _ => exact ⟨a, b, c, d, rfl⟩
theorem len6 {l : List Int} (h : l.length = 6) : ∃ a b c d e f, l = [a, b, c, d, e, f] := by
 match l, h with
 | [a, b, c, d, e, f], _ => exact ⟨a, b, c, d, e, f, rfl⟩
theorem len10 {l : List Int} (h : l.length = 10) : l10 l = l := by
 match l, h with
 | [a, b, c, d, e, f, g, h, i, j], _ => rfl
theorem ip_back {s : List UInt8} (h : (pipV s).2 = 0) : ipB (pipV s).1 = s ∧ 0 ≤ (pipV s).1 ∧ (pipV s).1 < 4294967296 := by
 unfold pipV at h ⊢
 cases hq : spF (decF 255) 46 4 s with
 | none => rw [hq] at h; cases h
 | some l =>
  obtain ⟨h1, h2, h3⟩ := jn_back hq
  obtain ⟨a, b, c, d, rfl⟩ := len4 h3
  obtain ⟨a0, a1⟩ := h2 a (by simp); obtain ⟨b0, b1⟩ := h2 b (by simp); obtain ⟨c0, c1⟩ := h2 c (by simp); obtain ⟨d0, d1⟩ := h2 d (by simp)
  simp only []
  rw [ipO_v a0 a1 b0 b1 c0 c1 d0 d1]
  have hr : 0 ≤ ((a * 256 + b) * 256 + c) * 256 + d ∧ ((a * 256 + b) * 256 + c) * 256 + d < 4294967296 := by omega
  obtain ⟨e1, e2, e3, e4⟩ := oct24 hr.1 hr.2
  refine ⟨?_, hr⟩
  rw [← h1]
  unfold ipB
  rw [e1, e2, e3, e4, show (((a * 256 + b) * 256 + c) * 256 + d) / 16777216 % 256 = a by omega, show (((a * 256 + b) * 256 + c) * 256 + d) / 65536 % 256 = b by omega, show (((a * 256 + b) * 256 + c) * 256 + d) / 256 % 256 = c by omega, show (((a * 256 + b) * 256 + c) * 256 + d) % 256 = d by omega]
  rfl
theorem esi_rt {e : List Int} (h : bytesI (l10 e)) : pesiV (pairsL (l10 e)) = (l10 e, 0) := by
 have := pairs_rt h (by simp [l10])
 change spF hexF 58 10 _ = _ at this
 unfold pesiV
 rw [this]
theorem esi_back {s : List UInt8} (h : (pesiV s).2 = 0) : bytesI (l10 (pesiV s).1) ∧ pairsL (l10 (pesiV s).1) = s.map lowB := by
 unfold pesiV at h ⊢
 cases hq : spF hexF 58 10 s with
 | none => rw [hq] at h; cases h
 | some l =>
  obtain ⟨h1, h2, h3⟩ := pairs_back hq
  simp only []
  rw [len10 h3]
  exact ⟨h2, h1⟩
theorem mac_rt {m : Int} (h0 : 0 ≤ m) (h1 : m ≤ 281474976710655) : pmacV (pairsL (macL m)) = (m, 0) := by
 have h := pairs_rt (macL_bytes m) (by simp [macL])
 change spF hexF 58 6 _ = _ at h
 unfold pmacV
 rw [h, macL_v h0]
 simp only []
 rw [macO_v (by omega) (by omega) (by omega) (by omega) (by omega) (by omega) (by omega) (by omega) (by omega) (by omega) (by omega) (by omega)]
 refine Prod.ext ?_ rfl
 show ((((m / 1099511627776 % 256 * 256 + m / 4294967296 % 256) * 256 + m / 16777216 % 256) * 256 + m / 65536 % 256) * 256 + m / 256 % 256) * 256 + m % 256 = m
 omega
theorem mac_back {s : List UInt8} (h : (pmacV s).2 = 0) : mactV (pmacV s).1 = (s.map lowB, 0) := by
 unfold pmacV at h ⊢
 cases hq : spF hexF 58 6 s with
 | none => rw [hq] at h; cases h
 | some l =>
  obtain ⟨h1, h2, h3⟩ := pairs_back hq
  obtain ⟨a, b, c, d, e, f, rfl⟩ := len6 h3
  obtain ⟨a0, a1⟩ := h2 a (by simp); obtain ⟨b0, b1⟩ := h2 b (by simp); obtain ⟨c0, c1⟩ := h2 c (by simp); obtain ⟨d0, d1⟩ := h2 d (by simp); obtain ⟨e0, e1⟩ := h2 e (by simp); obtain ⟨f0, f1⟩ := h2 f (by simp)
  simp only []
  rw [macO_v a0 a1 b0 b1 c0 c1 d0 d1 e0 e1 f0 f1]
  unfold mactV
  rw [decide_eq_false (by omega), cond_false, macL_v (by omega), ← h1]
  refine Prod.ext ?_ rfl
  show pairsL _ = pairsL _
  congr 1
  simp only [List.cons.injEq, and_true]
  refine ⟨by omega, by omega, by omega, by omega, by omega, by omega⟩
/- Prefixes. -/
theorem ipB_47 (ip : Int) : ∀ x ∈ ipB ip, x ≠ 47 := by
 intro x hx
 unfold ipB at hx
 have hd : ∀ k, ∀ y ∈ dcB (octI ip k), y ≠ 47 := fun k y hy => ((dec_rt (octI_rng ip k).1 (octI_rng ip k).2).2 y hy).2
 have h46 : (46 : UInt8) ≠ 47 := by decide
 simp only [List.mem_append, List.mem_cons] at hx
 rcases hx with hx | rfl | hx | rfl | hx | rfl | hx
 · exact hd 24 x hx
 · exact h46
 · exact hd 16 x hx
 · exact h46
 · exact hd 8 x hx
 · exact h46
 · exact hd 0 x hx
theorem pre_rt {p l : Int} (hv : vld l = true) : ppreV (pretV (clnI p l) l).1 = ((clnI p l, l), 0) := by
 obtain ⟨h0, h1⟩ := (vld_iff l).1 hv
 obtain ⟨g0, g1⟩ := clnI_rng p l
 have e : (pretV (clnI p l) l).1 = ipB (clnI p l) ++ 47 :: dcB l := by unfold pretV; rw [hv]; simp
 unfold ppreV
 rw [e, cut_app 47 _ _ (ipB_47 _)]
 simp only []
 rw [ip_rt g0 g1, dec32_rt h0 h1]
 simp only []
 unfold clnV
 rw [hv, cond_true, clnI_idem]
 simp
theorem pre_back {s : List UInt8} (h : (ppreV s).2 = 0) : pretV (ppreV s).1.1 (ppreV s).1.2 = (s, 0) := by
 unfold ppreV at h ⊢
 cases hq : (bif (pipV (cutF 47 s).1).2 != 0 then true else !(decF 32 (cutF 47 s).2.1).2) with
 | true => rw [hq] at h; cases h
 | false =>
  rw [hq, cond_false] at h
  rw [cond_false]
  cases hc : !((clnV (pipV (cutF 47 s).1).1 (decF 32 (cutF 47 s).2.1).1).1 == (pipV (cutF 47 s).1).1 && (clnV (pipV (cutF 47 s).1).1 (decF 32 (cutF 47 s).2.1).1).2.1 == (decF 32 (cutF 47 s).2.1).1) with
  | true => rw [hc] at h; cases h
  | false =>
   rw [cond_false]
   have hp : (pipV (cutF 47 s).1).2 = 0 := by
    cases hz : (pipV (cutF 47 s).1).2 != 0 with
    | true => rw [hz] at hq; cases hq
    | false => simpa using hz
   have hd : (decF 32 (cutF 47 s).2.1).2 = true := by
    rw [show ((pipV (cutF 47 s).1).2 != 0) = false by rw [hp]; rfl, cond_false] at hq
    simpa using hq
   obtain ⟨h1, h2, h3⟩ := dec_back (l := 32) (v := (decF 32 (cutF 47 s).2.1).1) (s := (cutF 47 s).2.1) (by decide) (Prod.ext rfl hd)
   obtain ⟨g1, g2, g3⟩ := ip_back hp
   have hf : (cutF 47 s).2.2 = true := by
    cases hz : (cutF 47 s).2.2 with
    | true => rfl
    | false =>
     have := (cut_whole 47 s hz).2
     rw [this] at hd
     exact absurd hd (by decide)
   have hs := cut_back 47 s (cutF 47 s).1 (cutF 47 s).2.1 (by rw [← hf])
   simp only []
   unfold pretV
   rw [(vld_iff _).2 ⟨h2, h3⟩, cond_true, g1, ← h1]
   refine Prod.ext ?_ rfl
   show (cutF 47 s).1 ++ [47] ++ (cutF 47 s).2.1 = s
   rw [List.append_assoc]
   exact hs.symm
end Go.Proofs.YtjjfggahllnafaaDoor
/- AddrTexts: the whole law. -/
namespace Go.Proofs.YtjjfggahllnafaaDoor
open Go.Am
set_option maxRecDepth 100000
theorem pairsL_len : ∀ (l : List Int), (pairsL l).length ≤ 3 * l.length
 | [] => Nat.le_refl _
 | [x] => by show 2 ≤ 3; omega
 | x :: y :: r => by
  have := pairsL_len (y :: r)
  simp only [pairsL, List.length_cons] at this ⊢
  omega
theorem bne_self0 (a : Int) : (a != a) = false := by simp
theorem w1_ok {ip : Int} {e : List Int} {K : CTree} (h0 : 0 ≤ ip) (h1 : ip < 4294967296) (he : bytesI (l10 e)) : w1C ip e K = K := by
 have hl : (pairsL (l10 e)).length ≤ 30 := pairsL_len (l10 e)
 have hi := ipB_len ip
 have heq : eq10 (l10 e) e = true := by simp [eq10, l10]
 unfold w1C
 rw [dec_iff.2 (fun k => octI_rng ip k : ∀ k, 0 ≤ octI ip k ∧ octI ip k ≤ 255), cond_true, decide_eq_true (by omega), cond_true, dec_iff.2 he, cond_true, decide_eq_true (by omega), cond_true, ip_rt h0 h1, esi_rt he]
 simp only []
 rw [bne_self0, heq]
 rfl
theorem w2_ok {m p pl : Int} {K : CTree} (h0 : 0 ≤ m) : w2C m p pl K = K := by
 have hm : (mactV m).1.length ≤ 1000000 := by
  unfold mactV
  cases decide (m > 281474976710655)
  · have := pairsL_len (macL m)
    have h2 : (macL m).length = 6 := rfl
    show (pairsL (macL m)).length ≤ 1000000
    omega
  · exact Nat.zero_le _
 have hp : (pretV (clnV p pl).1 (clnV p pl).2.1).1.length ≤ 1000000 := by
  unfold pretV
  cases vld (clnV p pl).2.1
  · exact Nat.zero_le _
  · have h1 := ipB_len (clnV p pl).1
    have h2 := dcB_len (clnV p pl).2.1
    simp only [cond_true, List.length_append, List.length_cons, List.length_nil]
    omega
 have hb : w2B m pl (mactV m) (pmacV (mactV m).1) (clnV p pl) (pretV (clnV p pl).1 (clnV p pl).2.1) (ppreV (pretV (clnV p pl).1 (clnV p pl).2.1).1) = false := by
  unfold w2B
  have hA : (bif (((mactV m).2 == 0) != decide (m ≤ 281474976710655)) then true else (bif (mactV m).2 == 0 then (bif (pmacV (mactV m).1).1 != m then true else (pmacV (mactV m).1).2 != 0) else false)) = false := by
   unfold mactV
   cases hc : decide (m > 281474976710655) with
   | true =>
    rw [decide_eq_false (by have := of_decide_eq_true hc; omega)]
    rfl
   | false =>
    have hm := of_decide_eq_false hc
    rw [decide_eq_true (by omega), cond_false]
    simp only []
    rw [mac_rt h0 (by omega)]
    simp
  rw [hA, cond_false]
  rw [show (bif decide (pl ≥ 0) then decide (pl ≤ 32) else false) = vld pl from rfl]
  unfold clnV
  cases hv : vld pl with
  | false => simp
  | true =>
   simp only [cond_true]
   rw [pre_rt hv]
   have : (pretV (clnI p pl) pl).2 = 0 := by unfold pretV; rw [hv]; rfl
   rw [this]
   simp
 unfold w2C
 rw [decide_eq_true hm, cond_true, dec_iff.2 (octOk_all _), cond_true, decide_eq_true hp, cond_true, hb, cond_false]
theorem w3_ok {s : List UInt8} {K : CTree} (hs : s.length ≤ 1000000) : w3C s K = K := by
 unfold w3C
 rw [decide_eq_true hs, cond_true]
 cases h : (pipV s).2 == 0 with
 | false => rfl
 | true =>
  rw [cond_true, dec_iff.2 (fun k => octI_rng (pipV s).1 k : ∀ k, 0 ≤ octI (pipV s).1 k ∧ octI (pipV s).1 k ≤ 255), cond_true, (ip_back (by simpa using h)).1]
  simp
theorem w4_ok {s : List UInt8} {K : CTree} (hs : s.length ≤ 1000000) : w4C s K = K := by
 unfold w4C
 rw [decide_eq_true hs, cond_true, cond_true]
 cases h : (pesiV s).2 == 0 with
 | false => rfl
 | true =>
  obtain ⟨h1, h2⟩ := esi_back (s := s) (by simpa using h)
  rw [cond_true, dec_iff.2 h1, cond_true, h2]
  simp
theorem w5_ok {s : List UInt8} {K : CTree} (hs : s.length ≤ 1000000) : w5C s K = K := by
 unfold w5C
 rw [decide_eq_true hs, cond_true]
 cases h : (ppreV s).2 == 0 with
 | false => rfl
 | true =>
  rw [cond_true, dec_iff.2 (octOk_all _), cond_true, pre_back (by simpa using h)]
  simp
theorem w6_ok {s : List UInt8} (hs : s.length ≤ 1000000) : w6C s = rtB true := by
 unfold w6C
 rw [decide_eq_true hs, cond_true, cond_true]
 cases h : (pmacV s).2 != 0 with
 | true => rfl
 | false =>
  rw [cond_false, mac_back (by simpa using h)]
  simp
noncomputable def law_s : CSumm := fun args H => match args, H with
 | [.int .u32 ip, .int .u64 m, .agg [.int .u32 _, .int .i64 _], .agg [.int .u8 a, .int .u8 b, .int .u8 c, .int .u8 d, .int .u8 e, .int .u8 f, .int .u8 g, .int .u8 h, .int .u8 i, .int .u8 j], .str _], [] =>
  .ite (dec (0 ≤ ip ∧ ip < 4294967296 ∧ 0 ≤ m ∧ bytesI [a, b, c, d, e, f, g, h, i, j])) (.ret (.bool true) []) .fail
 | _, _ => .fail
theorem law_k : Known Tryd.prog 3 law_s := (openKnown lwK Tryd.func3 rfl).weak (by
 intro args H v ups hh
 unfold law_s at hh
 split at hh
 · rename_i ip m p pl a b c d e f g h i j s
   rw [crun_ite, cond_eq_ite] at hh
   split at hh
   · rename_i hc
     obtain ⟨h0, h1, h2, h3⟩ := dec_iff.1 hc
     rw [← hh]
     refine (congrArg crun (law_t ip m p pl [a, b, c, d, e, f, g, h, i, j] s)).trans ?_
     cases hs : decide ((s.length : Int) > 200) with
     | true => rfl
     | false =>
      have hl := of_decide_eq_false hs
      have hl : s.length ≤ 1000000 := by omega
      rw [cond_false, w1_ok (e := [a, b, c, d, e, f, g, h, i, j]) h0 h1 h3, w2_ok h2, w3_ok hl, w4_ok hl, w5_ok hl, w6_ok hl]
      rfl
   · cases hh
 · cases hh)
end Go.Proofs.YtjjfggahllnafaaDoor
/- AddrTexts: the row and its card. -/
namespace Go.Proofs.YtjjfggahllnafaaDoor
open Go.Am Go.ChangeShapes Go.WideShapes Go.ChangeAt Go.RowKit Go.Joins Go.Lib
set_option maxRecDepth 100000
theorem Tryd.own : ownKnob Tryd.prog.godebug = none := by kernel_rfl
theorem laidTryd : laidOutB Tryd.prog = true := by kernel_rfl
theorem mapsTryd : mapsRowed Tryd.prog = true := by kernel_rfl
theorem fullTryd : ((List.range Tryd.prog.types.size).all fun t => match Tryd.prog.underlying t with | some (.slice e) => decide (0 < Tryd.prog.cellsOf e) | _ => true) = true := by kernel_rfl
theorem wf32n {n : Int} (h : (Lit.int .u32 n).wf = true) : 0 ≤ n ∧ n < 4294967296 := by
 simp [Lit.wf, IntKind.min, IntKind.max, IntKind.signed, IntKind.bits] at h; omega
theorem wf64 {n : Int} (h : (Lit.int .u64 n).wf = true) : 0 ≤ n ∧ n < 18446744073709551616 := by
 simp [Lit.wf, IntKind.min, IntKind.max, IntKind.signed, IntKind.bits] at h; omega
theorem wf8 {n : Int} (h : (Lit.int .u8 n).wf = true) : 0 ≤ n ∧ n ≤ 255 := by
 simp [Lit.wf, IntKind.min, IntKind.max, IntKind.signed, IntKind.bits] at h; omega
def pow10 : List Int := [1, 10, 100, 1000, 10000, 100000, 1000000, 10000000, 100000000, 1000000000, 10000000000, 100000000000, 1000000000000, 10000000000000, 100000000000000, 1000000000000000, 10000000000000000, 100000000000000000, 1000000000000000000, 10000000000000000000]
noncomputable def pg : Nat := (Tryd.prog.globalNamed "internal/strconv.uint64pow10").getD 0
noncomputable def pgT : TypeId := ((Tryd.prog.globals[pg]?).map (·.type)).getD 0
noncomputable def pgE : TypeId := match Tryd.prog.underlying pgT with | some (.array _ e) => e | _ => 0
theorem pg_n : Tryd.prog.globalNamed "internal/strconv.uint64pow10" = some pg := by kernel_rfl
theorem gtab_eq : gtab Tryd.prog = [(pg, pow10.map fun z => (IntKind.u64, z))] := by kernel_rfl
theorem pg_t : (Tryd.prog.globals[pg]?).map (·.type) = some pgT := by kernel_rfl
theorem pg_u : Tryd.prog.underlying pgT = some (.array 20 pgE) := by kernel_rfl
theorem pg_e : Tryd.prog.underlying pgE = some (.int .u64) := by kernel_rfl
theorem pg_c : Tryd.prog.cellsOf pgE = 1 := by kernel_rfl
theorem pg_k : Tryd.prog.cellsOf pgT = 20 := by kernel_rfl
theorem glob_of {W : World} (h : laidMet Tryd.prog Rows.addrTextsRow.laid W) : GlobR Tryd.prog W (Old W) := by
 obtain ⟨ps, ⟨_, _, _, _, _, _, _, _, _, _, ⟨_, _, _, _, _, _, _, _, _, _, ⟨g', t', cs, fuel, p, q, hg', ht', hvar, hd, _, _⟩, _⟩, _⟩, _⟩ := h
 obtain rfl := Option.some.inj (pg_n.symm.trans hg')
 obtain rfl := Option.some.inj (pg_t.symm.trans ht')
 have hcs := cells_of_tab (zs := pow10) pg_u pg_e pg_c pg_k hd
 intro e he
 rw [gtab_eq, List.mem_singleton] at he
 subst he
 have hcell : ∀ d, W.cell? ⟨pg, d, none⟩ = cs[d]? := fun d => World.var?_cell pg_n hvar d
 have hcl : ∀ d, cs[d]? = (pow10.map fun z => Value.int .u64 z)[d]? := fun d => by rw [← hcs, Array.getElem?_toList]
 refine ⟨?_, fun d kn hd => ?_⟩
 · have h0 := (hcell 0).trans (hcl 0)
   rw [show (pow10.map fun z => Value.int .u64 z)[0]? = some (.int .u64 1) from rfl] at h0
   show pg < W.heap.size
   rcases Nat.lt_or_ge pg W.heap.size with hlt | hge
   · exact hlt
   · simp [World.cell?, Array.getElem?_eq_none hge] at h0
 · rw [hcell, hcl]
   simp only [List.getElem?_map, Option.map_eq_some_iff] at hd ⊢
   obtain ⟨z, hz, rfl⟩ := hd
   exact ⟨z, hz, rfl⟩
theorem laidH_eq (W : World) : laidMetH Tryd.prog Rows.addrTextsRow.laid W = laidMet Tryd.prog Rows.addrTextsRow.laid W := MakeChecks.laidMetH_plain _ _ _ (by kernel_rfl)
noncomputable def wit (os : Os) : World := World.laidAll Tryd.prog os Rows.addrTextsRow.laid
theorem wit_met (os : Os) (args : Array Value) : laidMet Tryd.prog Rows.addrTextsRow.laid ((wit os).forCall (fun _ _ => 0) ⟨#[], args, []⟩).memory := laidMet_laidAll _ (by kernel_rfl) (by kernel_rfl)
end Go.Proofs.YtjjfggahllnafaaDoor
