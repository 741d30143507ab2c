/- Addresses: arithmetic. -/
import Derived.Test.YtpelignoebgkbaaDoorPart6
set_option linter.unusedVariables false
set_option linter.unusedSimpArgs false
namespace Go.Proofs.YtpelignoebgkbaaDoor
open Go.Am
set_option maxRecDepth 100000
/- Addresses and their bytes: arithmetic. -/
theorem ofInt_nat {k n : Nat} (h : n < 2 ^ k) : (BitVec.ofInt k (n : Int)).toNat = n := by
 rw [BitVec.toNat_ofInt]
 have h1 : ((n : Int) % ((2 ^ k : Nat) : Int)).toNat = n % 2 ^ k := by
  rw [← Int.natCast_emod]; rfl
 rw [h1, Nat.mod_eq_of_lt h]
theorem or_nat {a b : Nat} (hb : b < 256) : (a * 256) ||| b = a * 256 + b := by
 have := Nat.two_pow_add_eq_or_of_lt (i := 8) (b := b) (by omega) a
 rw [Nat.mul_comm a 256]
 exact this.symm
theorem shO32 {a b : Int} (a0 : 0 ≤ a) (b0 : 0 ≤ b) (b1 : b < 256) (h : a * 256 + b < 4294967296) : shO .u32 a b = a * 256 + b := by
 obtain ⟨x, rfl⟩ := Int.eq_ofNat_of_zero_le a0
 obtain ⟨y, rfl⟩ := Int.eq_ofNat_of_zero_le b0
 have w : ∀ n : Int, 0 ≤ n → n < 4294967296 → IntKind.u32.wrap n = n := fun n h0 h1 => by simp [IntKind.wrap, IntKind.bits, IntKind.signed]; omega
 unfold shO orI
 rw [w ((x : Int) * 256) (by omega) (by omega), w (y : Int) (by omega) (by omega), BitVec.toNat_or]
 have e1 : (BitVec.ofInt IntKind.u32.bits ((x : Int) * 256)).toNat = x * 256 := by
  rw [show ((x : Int) * 256) = ((x * 256 : Nat) : Int) by omega]
  exact ofInt_nat (k := 32) (by omega)
 have e2 : (BitVec.ofInt IntKind.u32.bits (y : Int)).toNat = y := ofInt_nat (k := 32) (by omega)
 rw [e1, e2, or_nat (by omega), w _ (by omega) (by omega)]
 omega
theorem shO64 {a b : Int} (a0 : 0 ≤ a) (b0 : 0 ≤ b) (b1 : b < 256) (h : a * 256 + b < 18446744073709551616) : shO .u64 a b = a * 256 + b := by
 obtain ⟨x, rfl⟩ := Int.eq_ofNat_of_zero_le a0
 obtain ⟨y, rfl⟩ := Int.eq_ofNat_of_zero_le b0
 have w : ∀ n : Int, 0 ≤ n → n < 18446744073709551616 → IntKind.u64.wrap n = n := fun n h0 h1 => by simp [IntKind.wrap, IntKind.bits, IntKind.signed]; omega
 unfold shO orI
 rw [w ((x : Int) * 256) (by omega) (by omega), w (y : Int) (by omega) (by omega), BitVec.toNat_or]
 have e1 : (BitVec.ofInt IntKind.u64.bits ((x : Int) * 256)).toNat = x * 256 := by
  rw [show ((x : Int) * 256) = ((x * 256 : Nat) : Int) by omega]
  exact ofInt_nat (k := 64) (by omega)
 have e2 : (BitVec.ofInt IntKind.u64.bits (y : Int)).toNat = y := ofInt_nat (k := 64) (by omega)
 rw [e1, e2, or_nat (by omega), w _ (by omega) (by omega)]
 omega
theorem ipO_v {a b c d : Int} (a0 : 0 ≤ a) (a1 : a ≤ 255) (b0 : 0 ≤ b) (b1 : b ≤ 255) (c0 : 0 ≤ c) (c1 : c ≤ 255) (d0 : 0 ≤ d) (d1 : d ≤ 255) : ipO [a, b, c, d] = ((a * 256 + b) * 256 + c) * 256 + d := by
 have e : ipO [a, b, c, d] = shO .u32 (shO .u32 (shO .u32 (shO .u32 0 a) b) c) d := rfl
 rw [e, shO32 (a := 0) (by omega) a0 (by omega) (by omega), shO32 (by omega) b0 (by omega) (by omega), shO32 (by omega) c0 (by omega) (by omega), shO32 (by omega) d0 (by omega) (by omega)]
 omega
theorem macO_v {a b c d e f : Int} (a0 : 0 ≤ a) (a1 : a ≤ 255) (b0 : 0 ≤ b) (b1 : b ≤ 255) (c0 : 0 ≤ c) (c1 : c ≤ 255) (d0 : 0 ≤ d) (d1 : d ≤ 255) (e0 : 0 ≤ e) (e1 : e ≤ 255) (f0 : 0 ≤ f) (f1 : f ≤ 255) :
  macO [a, b, c, d, e, f] = ((((a * 256 + b) * 256 + c) * 256 + d) * 256 + e) * 256 + f := by
 have h : macO [a, b, c, d, e, f] = shO .u64 (shO .u64 (shO .u64 (shO .u64 (shO .u64 (shO .u64 0 a) b) c) d) e) f := rfl
 rw [h, shO64 (a := 0) (by omega) a0 (by omega) (by omega), shO64 (by omega) b0 (by omega) (by omega), shO64 (by omega) c0 (by omega) (by omega), shO64 (by omega) d0 (by omega) (by omega), shO64 (by omega) e0 (by omega) (by omega), shO64 (by omega) f0 (by omega) (by omega)]
 omega
theorem wu64_idU {n : Int} (h0 : 0 ≤ n) (h1 : n < 18446744073709551616) : wu64 n = n := by
 show IntKind.u64.wrap n = n
 simp [IntKind.wrap, IntKind.bits, IntKind.signed]; omega
theorem octI_rng (ip : Int) (k : Nat) : 0 ≤ octI ip k ∧ octI ip k ≤ 255 := by
 unfold octI andI
 have hle : (BitVec.ofInt IntKind.u32.bits (ip.fdiv (2 ^ k)) &&& BitVec.ofInt IntKind.u32.bits 255).toNat ≤ 255 := by
  rw [BitVec.toNat_and]
  have : (BitVec.ofInt IntKind.u32.bits 255).toNat = 255 := by decide
  rw [this]
  exact Nat.and_le_right
 generalize (BitVec.ofInt IntKind.u32.bits (ip.fdiv (2 ^ k)) &&& BitVec.ofInt IntKind.u32.bits 255).toNat = n at *
 have e : IntKind.u32.wrap (n : Int) = n := by simp [IntKind.wrap, IntKind.bits, IntKind.signed]; omega
 rw [e, wu64_idU (by omega) (by omega)]
 omega
theorem octI_v {ip : Int} (h0 : 0 ≤ ip) (h1 : ip < 4294967296) (k : Nat) : octI ip k = ip / 2 ^ k % 256 := by
 obtain ⟨n, rfl⟩ := Int.eq_ofNat_of_zero_le h0
 unfold octI andI
 have ef : ((n : Nat) : Int).fdiv (2 ^ k) = ((n / 2 ^ k : Nat) : Int) := by
  rw [Int.fdiv_eq_ediv_of_nonneg _ (by exact Int.pow_nonneg (by decide))]
  rw [Int.natCast_ediv]
  simp
 have hlt : n / 2 ^ k < 2 ^ 32 := Nat.lt_of_le_of_lt (Nat.div_le_self _ _) (by omega)
 rw [ef, BitVec.toNat_and]
 have e1 : (BitVec.ofInt IntKind.u32.bits ((n / 2 ^ k : Nat) : Int)).toNat = n / 2 ^ k := ofInt_nat (k := 32) hlt
 have e2 : (BitVec.ofInt IntKind.u32.bits 255).toNat = 2 ^ 8 - 1 := by decide
 rw [e1, e2, Nat.and_two_pow_sub_one_eq_mod]
 have hm : n / 2 ^ k % 2 ^ 8 < 256 := Nat.mod_lt _ (by decide)
 have e : IntKind.u32.wrap ((n / 2 ^ k % 2 ^ 8 : Nat) : Int) = ((n / 2 ^ k % 2 ^ 8 : Nat) : Int) := by simp [IntKind.wrap, IntKind.bits, IntKind.signed]; omega
 rw [e, wu64_idU (by omega) (by omega)]
 rw [Int.natCast_emod, Int.natCast_ediv]
 simp
theorem oct24 {ip : Int} (h0 : 0 ≤ ip) (h1 : ip < 4294967296) : octI ip 24 = ip / 16777216 % 256 ∧ octI ip 16 = ip / 65536 % 256 ∧ octI ip 8 = ip / 256 % 256 ∧ octI ip 0 = ip % 256 := by
 have e24 : (2 : Int) ^ 24 = 16777216 := by decide
 have e16 : (2 : Int) ^ 16 = 65536 := by decide
 have e8 : (2 : Int) ^ 8 = 256 := by decide
 have e0 : (2 : Int) ^ 0 = 1 := by decide
 rw [octI_v h0 h1, octI_v h0 h1, octI_v h0 h1, octI_v h0 h1, e24, e16, e8, e0, Int.ediv_one]
 exact ⟨rfl, rfl, rfl, rfl⟩
theorem macL_v {m : Int} (h0 : 0 ≤ m) : macL m = [m / 1099511627776 % 256, m / 4294967296 % 256, m / 16777216 % 256, m / 65536 % 256, m / 256 % 256, m % 256] := by
 have e40 : (2 : Int) ^ 40 = 1099511627776 := by decide
 have e32 : (2 : Int) ^ 32 = 4294967296 := by decide
 have e24 : (2 : Int) ^ 24 = 16777216 := by decide
 have e16 : (2 : Int) ^ 16 = 65536 := by decide
 have e8 : (2 : Int) ^ 8 = 256 := by decide
 have e0 : (2 : Int) ^ 0 = 1 := by decide
 have w : ∀ n : Int, w8 n = n % 256 := fun n => by simp [IntKind.wrap, IntKind.bits, IntKind.signed]
 have f : ∀ d : Int, 0 ≤ d → m.fdiv d = m / d := fun d hd => Int.fdiv_eq_ediv_of_nonneg _ hd
 unfold macL
 rw [e40, e32, e24, e16, e8, e0, f _ (by decide), f _ (by decide), f _ (by decide), f _ (by decide), f _ (by decide), f _ (by decide), w, w, w, w, w, w, Int.ediv_one]
end Go.Proofs.YtpelignoebgkbaaDoor
/- Addresses: single groups, written and read. -/
namespace Go.Proofs.YtpelignoebgkbaaDoor
open Go.Am
set_option maxRecDepth 100000
def lowB (b : UInt8) : UInt8 := bif decide (65 ≤ b.toNat ∧ b.toNat ≤ 90) then UInt8.ofNat (b.toNat + 32) else b
/- Cuts. -/
theorem cut_app (c : UInt8) : ∀ (a r : List UInt8), (∀ x ∈ a, x ≠ c) → cutF c (a ++ c :: r) = (a, r, true)
 | [], r, _ => by unfold cutF; simp
 | x :: a, r, h => by
  have hx : (x == c) = false := by simpa using h x (by simp)
  rw [List.cons_append]
  unfold cutF
  rw [hx, cond_false, cut_app c a r (fun y hy => h y (by simp [hy]))]
theorem cut_none (c : UInt8) : ∀ (a : List UInt8), (∀ x ∈ a, x ≠ c) → cutF c a = (a, [], false)
 | [], _ => rfl
 | x :: a, h => by
  have hx : (x == c) = false := by simpa using h x (by simp)
  unfold cutF
  rw [hx, cond_false, cut_none c a (fun y hy => h y (by simp [hy]))]
theorem cut_back (c : UInt8) : ∀ (s h t : List UInt8), cutF c s = (h, t, true) → s = h ++ c :: t
 | [], h, t, e => by simp [cutF] at e
 | x :: s, h, t, e => by
  unfold cutF at e
  cases hx : x == c with
  | true =>
   rw [hx, cond_true] at e
   have : x = c := by simpa using hx
   cases e; rw [this]; rfl
  | false =>
   rw [hx, cond_false] at e
   simp only [Prod.mk.injEq] at e
   obtain ⟨rfl, e2, e3⟩ := e
   have := cut_back c s (cutF c s).1 t (by rw [← e2, ← e3])
   rw [List.cons_append, ← this]
theorem cut_whole (c : UInt8) : ∀ (s : List UInt8), (cutF c s).2.2 = false → (cutF c s).1 = s ∧ (cutF c s).2.1 = []
 | [], _ => ⟨rfl, rfl⟩
 | x :: s, e => by
  unfold cutF at e ⊢
  cases hx : x == c with
  | true => rw [hx] at e; cases e
  | false =>
   rw [hx, cond_false] at e
   rw [cond_false]
   obtain ⟨h1, h2⟩ := cut_whole c s e
   exact ⟨by rw [h1], h2⟩
/- Decimal numbers. -/
theorem dig10_all : ((List.range 256).all fun k => bif decide (dgt ((k : Nat) : Int) 10 < 10) then decide (48 ≤ k ∧ k ≤ 57 ∧ dgt ((k : Nat) : Int) 10 = ((k : Nat) : Int) - 48) else true) = true := by kernel_rfl
theorem dig10 {c : UInt8} (h : dgt c.toNat 10 < 10) : 48 ≤ c.toNat ∧ c.toNat ≤ 57 ∧ dgt c.toNat 10 = (c.toNat : Int) - 48 := by
 have := List.all_eq_true.1 dig10_all c.toNat (List.mem_range.2 c.toNat_lt)
 rw [decide_eq_true h, cond_true] at this
 exact of_decide_eq_true this
theorem dgS_cons {l v w : Int} {c : UInt8} {cs : List UInt8} (h : dgS 10 l (c :: cs) v = some w) : 48 ≤ c.toNat ∧ c.toNat ≤ 57 ∧ v * 10 + ((c.toNat : Int) - 48) ≤ l ∧ dgS 10 l cs (v * 10 + ((c.toNat : Int) - 48)) = some w := by
 unfold dgS at h
 cases hq : (bif decide (dgt c.toNat 10 ≥ 10) then true else decide (v * 10 + dgt c.toNat 10 > l)) with
 | true => rw [hq] at h; cases h
 | false =>
  rw [hq, cond_false] at h
  by_cases a1 : dgt c.toNat 10 ≥ 10
  · rw [decide_eq_true a1] at hq; cases hq
  · rw [decide_eq_false a1, cond_false] at hq
    have a2 := of_decide_eq_false hq
    obtain ⟨h1, h2, h3⟩ := dig10 (c := c) (by omega)
    rw [h3] at a2 h
    exact ⟨h1, h2, by omega, h⟩
theorem chD_c {c : UInt8} {n : Int} (h0 : 48 ≤ c.toNat) (h1 : c.toNat ≤ 57) (hn : n = (c.toNat : Int) - 48) : chD n = c := by
 apply UInt8.toNat_inj.1
 have := chD_nat (n := n) (by omega) (by omega)
 omega
theorem dec_back {l v : Int} {s : List UInt8} (hl : l ≤ 255) (h : decF l s = (v, true)) : s = dcB v ∧ 0 ≤ v ∧ v ≤ l := by
 unfold decF at h
 cases hz : z1 s with
 | true => rw [hz] at h; cases h
 | false =>
  rw [hz, cond_false] at h
  unfold dgV at h
  cases hq : dgS 10 l s 0 with
  | none => rw [hq] at h; cases h
  | some w =>
   rw [hq] at h
   simp only [Prod.mk.injEq, decide_eq_true_eq] at h
   obtain ⟨rfl, hlen⟩ := h
   match s, hlen, hq, hz with
   | [c1], _, hq, _ =>
    obtain ⟨a1, a2, a3, h1⟩ := dgS_cons hq
    simp only [dgS, Option.some.injEq] at h1
    have e1 : chD w = c1 := chD_c a1 a2 (by omega)
    refine ⟨?_, by omega, by omega⟩
    unfold dcB
    rw [decide_eq_true (show w < 10 by omega), cond_true, e1]
   | [c1, c2], _, hq, hz =>
    obtain ⟨a1, a2, a3, h1⟩ := dgS_cons hq
    obtain ⟨b1, b2, b3, h2⟩ := dgS_cons h1
    simp only [dgS, Option.some.injEq] at h2
    have hne : c1.toNat ≠ 48 := by
     intro hc
     unfold z1 at hz
     simp [hc] at hz
    have e1 : chD (w / 10) = c1 := chD_c a1 a2 (by omega)
    have e2 : chD (w % 10) = c2 := chD_c b1 b2 (by omega)
    refine ⟨?_, by omega, by omega⟩
    unfold dcB
    rw [decide_eq_false (show ¬ w < 10 by omega), cond_false, decide_eq_true (show w < 100 by omega), cond_true, e1, e2]
   | [c1, c2, c3], _, hq, hz =>
    obtain ⟨a1, a2, a3, h1⟩ := dgS_cons hq
    obtain ⟨b1, b2, b3, h2⟩ := dgS_cons h1
    obtain ⟨d1, d2, d3', h3⟩ := dgS_cons h2
    simp only [dgS, Option.some.injEq] at h3
    have hne : c1.toNat ≠ 48 := by
     intro hc
     unfold z1 at hz
     simp [hc] at hz
    have e1 : chD (w / 100) = c1 := chD_c a1 a2 (by omega)
    have e2 : chD (w / 10 % 10) = c2 := chD_c b1 b2 (by omega)
    have e3 : chD (w % 10) = c3 := chD_c d1 d2 (by omega)
    refine ⟨?_, by omega, by omega⟩
    unfold dcB
    rw [decide_eq_false (show ¬ w < 10 by omega), cond_false, decide_eq_false (show ¬ w < 100 by omega), cond_false, e1, e2, e3]
   | c1 :: c2 :: c3 :: c4 :: r, _, hq, hz =>
    exfalso
    obtain ⟨a1, a2, a3, h1⟩ := dgS_cons hq
    obtain ⟨b1, b2, b3, h2⟩ := dgS_cons h1
    obtain ⟨d1, d2, d3', h3⟩ := dgS_cons h2
    obtain ⟨f1, f2, f3, h4⟩ := dgS_cons h3
    have hne : c1.toNat ≠ 48 := by
     intro hc
     unfold z1 at hz
     simp [hc] at hz
     omega
    omega
/- Pairs of digits. -/
theorem hex_all : ((List.range 256).all fun k => decide (hexF [hx (hiD ((k : Nat) : Int)), hx (loD ((k : Nat) : Int))] = (((k : Nat) : Int), true)) && decide (hx (hiD ((k : Nat) : Int)) ≠ 58 ∧ hx (loD ((k : Nat) : Int)) ≠ 58)) = true := by kernel_rfl
theorem hex_rt {v : Int} (h0 : 0 ≤ v) (h1 : v ≤ 255) : hexF [hx (hiD v), hx (loD v)] = (v, true) ∧ hx (hiD v) ≠ 58 ∧ hx (loD v) ≠ 58 := by
 have := List.all_eq_true.1 hex_all v.toNat (List.mem_range.2 (by omega))
 rw [show ((v.toNat : Nat) : Int) = v by omega, Bool.and_eq_true] at this
 exact ⟨of_decide_eq_true this.1, of_decide_eq_true this.2⟩
theorem dig16_all : ((List.range 256).all fun k => bif decide (dgt ((k : Nat) : Int) 16 < 16) then decide (0 ≤ dgt ((k : Nat) : Int) 16 ∧ hx (dgt ((k : Nat) : Int) 16) = lowB (UInt8.ofNat k)) else true) = true := by kernel_rfl
theorem dig16 {c : UInt8} (h : dgt c.toNat 16 < 16) : 0 ≤ dgt c.toNat 16 ∧ hx (dgt c.toNat 16) = lowB c := by
 have := List.all_eq_true.1 dig16_all c.toNat (List.mem_range.2 c.toNat_lt)
 rw [decide_eq_true h, cond_true] at this
 have h2 := of_decide_eq_true this
 rw [show UInt8.ofNat c.toNat = c by simp] at h2
 exact h2
theorem dgS16_cons {v w : Int} {c : UInt8} {cs : List UInt8} (h : dgS 16 255 (c :: cs) v = some w) : dgt c.toNat 16 < 16 ∧ dgS 16 255 cs (v * 16 + dgt c.toNat 16) = some w := by
 unfold dgS at h
 cases hq : (bif decide (dgt c.toNat 16 ≥ 16) then true else decide (v * 16 + dgt c.toNat 16 > 255)) with
 | true => rw [hq] at h; cases h
 | false =>
  rw [hq, cond_false] at h
  by_cases a1 : dgt c.toNat 16 ≥ 16
  · rw [decide_eq_true a1] at hq; cases hq
  · exact ⟨by omega, h⟩
theorem hex_back {v : Int} {s : List UInt8} (h : hexF s = (v, true)) : [hx (hiD v), hx (loD v)] = s.map lowB ∧ 0 ≤ v ∧ v ≤ 255 := by
 unfold hexF at h
 cases hz : ((s.length : Int) != 2) with
 | true => rw [hz] at h; cases h
 | false =>
  rw [hz, cond_false] at h
  have h2 : s.length = 2 := by
   have : (s.length : Int) = 2 := by simpa using hz
   omega
  unfold dgV at h
  cases hq : dgS 16 255 s 0 with
  | none => rw [hq] at h; cases h
  | some w =>
   rw [hq] at h
   simp only [Prod.mk.injEq, decide_eq_true_eq] at h
   obtain ⟨rfl, -⟩ := h
   match s, h2, hq with
   | [c1, c2], _, hq =>
    obtain ⟨a1, h1⟩ := dgS16_cons hq
    obtain ⟨b1, h2⟩ := dgS16_cons h1
    simp only [dgS, Option.some.injEq] at h2
    obtain ⟨a0, ha⟩ := dig16 a1
    obtain ⟨b0, hb⟩ := dig16 b1
    have hw0 : 0 ≤ w := by omega
    have hw1 : w ≤ 255 := by omega
    obtain ⟨n1, n2⟩ := nib hw0 hw1
    refine ⟨?_, hw0, hw1⟩
    rw [n1, n2, show w / 16 = dgt c1.toNat 16 by omega, show w % 16 = dgt c2.toNat 16 by omega, ha, hb]
    rfl
end Go.Proofs.YtpelignoebgkbaaDoor
/- Addresses: what is written is read; what is read is written. -/
namespace Go.Proofs.YtpelignoebgkbaaDoor
open Go.Am
set_option maxRecDepth 100000
/- What is written is parsed; what is parsed was written: addresses. -/
theorem spF_last {rd : List UInt8 → Int × Bool} {c : UInt8} {s : List UInt8} {v : Int} (hc : ∀ x ∈ s, x ≠ c) (hr : rd s = (v, true)) : spF rd c 1 s = some [v] := by
 unfold spF; rw [cut_none c s hc]; simp only []; rw [hr]; rfl
theorem spF_more {rd : List UInt8 → Int × Bool} {c : UInt8} {a t : List UInt8} {v : Int} {m : Nat} {l : List Int} (hc : ∀ x ∈ a, x ≠ c) (hr : rd a = (v, true)) (ht : spF rd c m t = some l) : spF rd c (m + 1) (a ++ c :: t) = some (v :: l) := by
 unfold spF; rw [cut_app c a t hc]; simp only []; rw [hr, ht]; rfl
theorem spF_back {rd : List UInt8 → Int × Bool} {c : UInt8} {m : Nat} {s : List UInt8} {l : List Int} (h : spF rd c (m + 1) s = some l) :
  (m = 0 ∧ ∃ v, rd s = (v, true) ∧ l = [v]) ∨ ∃ a t v r, s = a ++ c :: t ∧ rd a = (v, true) ∧ spF rd c m t = some r ∧ l = v :: r := by
 unfold spF at h
 cases hr : !(rd (cutF c s).1).2 with
 | true => rw [hr] at h; cases h
 | false =>
  have hr2 : rd (cutF c s).1 = ((rd (cutF c s).1).1, true) := by
   have : (rd (cutF c s).1).2 = true := by simpa using hr
   exact Prod.ext rfl this
  rw [hr, cond_false] at h
  cases hm : !(cutF c s).2.2 with
  | true =>
   rw [hm, cond_true] at h
   have hf : (cutF c s).2.2 = false := by simpa using hm
   obtain ⟨h1, _⟩ := cut_whole c s hf
   rw [h1] at hr2 h
   cases m with
   | zero => left; refine ⟨rfl, _, hr2, ?_⟩; cases h; rfl
   | succ m => cases h
  | false =>
   rw [hm, cond_false] at h
   have hf : (cutF c s).2.2 = true := by simpa using hm
   have hs := cut_back c s (cutF c s).1 (cutF c s).2.1 (by rw [← hf])
   cases hq : spF rd c m (cutF c s).2.1 with
   | none => rw [hq] at h; cases h
   | some r =>
    rw [hq] at h
    right
    refine ⟨_, _, _, r, hs, hr2, hq, ?_⟩
    cases h; rfl
/- Pairs of digits. -/
theorem pairs_rt : ∀ {l : List Int}, bytesI l → l ≠ [] → spF hexF 58 l.length (pairsL l) = some l
 | [], _, h => absurd rfl h
 | [x], hb, _ => by
  obtain ⟨h0, h1⟩ := hb x (by simp)
  obtain ⟨g1, g2, g3⟩ := hex_rt h0 h1
  exact spF_last (by intro y hy; have hy : y ∈ [hx (hiD x), hx (loD x)] := hy; simp at hy; rcases hy with rfl | rfl <;> assumption) g1
 | x :: y :: r, hb, _ => by
  obtain ⟨h0, h1⟩ := hb x (by simp)
  obtain ⟨g1, g2, g3⟩ := hex_rt h0 h1
  have ih := pairs_rt (l := y :: r) (fun z hz => hb z (by simp only [List.mem_cons] at hz ⊢; exact .inr hz)) (by simp)
  exact spF_more (a := [hx (hiD x), hx (loD x)]) (by intro z hz; simp at hz; rcases hz with rfl | rfl <;> assumption) g1 ih
theorem low58 : lowB 58 = 58 := by kernel_rfl
theorem pairs_back : ∀ {m : Nat} {s : List UInt8} {l : List Int}, spF hexF 58 m s = some l → pairsL l = s.map lowB ∧ bytesI l ∧ l.length = m
 | 0, _, _, h => by cases h
 | m + 1, s, l, h => by
  rcases spF_back h with ⟨rfl, v, hr, rfl⟩ | ⟨a, t, v, r, rfl, hr, ht, rfl⟩
  · obtain ⟨h1, h2, h3⟩ := hex_back hr
    exact ⟨h1, fun x hx => by simp at hx; subst hx; exact ⟨h2, h3⟩, rfl⟩
  · obtain ⟨h1, h2, h3⟩ := hex_back hr
    obtain ⟨g1, g2, g3⟩ := pairs_back ht
    refine ⟨?_, fun x hx => ?_, by simp [g3]⟩
    · cases r with
      | nil =>
       have : m = 0 := by simpa using g3.symm
       subst this; cases ht
      | cons y r =>
       rw [List.map_append, ← h1, List.map_cons, low58, ← g1]
       rfl
    · rcases List.mem_cons.1 hx with rfl | hx
      · exact ⟨h2, h3⟩
      · exact g2 x hx
/- Decimal numbers. -/
def jn : List Int → List UInt8
 | [] => []
 | [v] => dcB v
 | v :: w :: r => dcB v ++ 46 :: jn (w :: r)
theorem jn_back : ∀ {m : Nat} {s : List UInt8} {l : List Int}, spF (decF 255) 46 m s = some l → jn l = s ∧ bytesI l ∧ l.length = m
 | 0, _, _, h => by cases h
 | m + 1, s, l, h => by
  rcases spF_back h with ⟨rfl, v, hr, rfl⟩ | ⟨a, t, v, r, rfl, hr, ht, rfl⟩
  · obtain ⟨h1, h2, h3⟩ := dec_back (by decide) hr
    exact ⟨h1.symm, fun x hx => by simp at hx; subst hx; exact ⟨h2, h3⟩, rfl⟩
  · obtain ⟨h1, h2, h3⟩ := dec_back (by decide) hr
    obtain ⟨g1, g2, g3⟩ := jn_back ht
    refine ⟨?_, fun x hx => ?_, by simp [g3]⟩
    · cases r with
      | nil =>
       have : m = 0 := by simpa using g3.symm
       subst this; cases ht
      | cons y r =>
       rw [h1, ← g1]
       rfl
    · rcases List.mem_cons.1 hx with rfl | hx
      · exact ⟨h2, h3⟩
      · exact g2 x hx
/- Addresses. -/
theorem len4 {l : List Int} (h : l.length = 4) : ∃ a b c d, l = [a, b, c, d] := by
 match l, h with
 | [a, b, c, d], _ => exact ⟨a, b, c, d, rfl⟩
theorem len6 {l : List Int} (h : l.length = 6) : ∃ a b c d e f, l = [a, b, c, d, e, f] := by
 match l, h with
 | [a, b, c, d, e, f], _ => exact ⟨a, b, c, d, e, f, rfl⟩
theorem ip_back {s : List UInt8} (h : (pipV s).2 = 0) : ipB (pipV s).1 = s ∧ 0 ≤ (pipV s).1 ∧ (pipV s).1 < 4294967296 := by
 unfold pipV at h ⊢
 cases hq : spF (decF 255) 46 4 s with
 | none => rw [hq] at h; cases h
 | some l =>
  obtain ⟨h1, h2, h3⟩ := jn_back hq
  obtain ⟨a, b, c, d, rfl⟩ := len4 h3
  obtain ⟨a0, a1⟩ := h2 a (by simp); obtain ⟨b0, b1⟩ := h2 b (by simp); obtain ⟨c0, c1⟩ := h2 c (by simp); obtain ⟨d0, d1⟩ := h2 d (by simp)
  simp only []
  rw [ipO_v a0 a1 b0 b1 c0 c1 d0 d1]
  have hr : 0 ≤ ((a * 256 + b) * 256 + c) * 256 + d ∧ ((a * 256 + b) * 256 + c) * 256 + d < 4294967296 := by omega
  obtain ⟨e1, e2, e3, e4⟩ := oct24 hr.1 hr.2
  refine ⟨?_, hr⟩
  rw [← h1]
  unfold ipB
  rw [e1, e2, e3, e4, show (((a * 256 + b) * 256 + c) * 256 + d) / 16777216 % 256 = a by omega, show (((a * 256 + b) * 256 + c) * 256 + d) / 65536 % 256 = b by omega, show (((a * 256 + b) * 256 + c) * 256 + d) / 256 % 256 = c by omega, show (((a * 256 + b) * 256 + c) * 256 + d) % 256 = d by omega]
  rfl
theorem mac_rt {m : Int} (h0 : 0 ≤ m) (h1 : m ≤ 281474976710655) : pmacV (pairsL (macL m)) = (m, 0) := by
 have h := pairs_rt (macL_bytes m) (by simp [macL])
 change spF hexF 58 6 _ = _ at h
 unfold pmacV
 rw [h, macL_v h0]
 simp only []
 rw [macO_v (by omega) (by omega) (by omega) (by omega) (by omega) (by omega) (by omega) (by omega) (by omega) (by omega) (by omega) (by omega)]
 refine Prod.ext ?_ rfl
 show ((((m / 1099511627776 % 256 * 256 + m / 4294967296 % 256) * 256 + m / 16777216 % 256) * 256 + m / 65536 % 256) * 256 + m / 256 % 256) * 256 + m % 256 = m
 omega
theorem mac_back {s : List UInt8} (h : (pmacV s).2 = 0) : mactV (pmacV s).1 = (s.map lowB, 0) := by
 unfold pmacV at h ⊢
 cases hq : spF hexF 58 6 s with
 | none => rw [hq] at h; cases h
 | some l =>
  obtain ⟨h1, h2, h3⟩ := pairs_back hq
  obtain ⟨a, b, c, d, e, f, rfl⟩ := len6 h3
  obtain ⟨a0, a1⟩ := h2 a (by simp); obtain ⟨b0, b1⟩ := h2 b (by simp); obtain ⟨c0, c1⟩ := h2 c (by simp); obtain ⟨d0, d1⟩ := h2 d (by simp); obtain ⟨e0, e1⟩ := h2 e (by simp); obtain ⟨f0, f1⟩ := h2 f (by simp)
  simp only []
  rw [macO_v a0 a1 b0 b1 c0 c1 d0 d1 e0 e1 f0 f1]
  unfold mactV
  rw [decide_eq_false (by omega), cond_false, macL_v (by omega), ← h1]
  refine Prod.ext ?_ rfl
  show pairsL _ = pairsL _
  congr 1
  simp only [List.cons.injEq, and_true]
  refine ⟨by omega, by omega, by omega, by omega, by omega, by omega⟩
end Go.Proofs.YtpelignoebgkbaaDoor
/- The reference's digits. -/
namespace Go.Proofs.YtpelignoebgkbaaDoor
open Go.Am
set_option maxRecDepth 100000
def dgR (c : Int) : Int := bif decide (dgt c 16 < 16) then dgt c 16 else -1
theorem dr_all : ((List.range 256).all fun k => eqR (.int .i64 (dgR ((k : Nat) : Int))) [] (crun (opn (tbl []) Tryd.f54 [.int .u8 ((k : Nat) : Int)] []))) = true := by kernel_rfl
noncomputable def dr_s : CSumm := fun args H => match args, H with
 | [.int .u8 v], [] => .ite (decide (0 ≤ v ∧ v ≤ 255)) (.ret (.int .i64 (dgR v)) []) .fail
 | _, _ => .fail
theorem dr_k : Known Tryd.prog 54 dr_s := (openKnown ok0 Tryd.func54 rfl).weak (by
 intro args H v ups h
 unfold dr_s at h
 split at h
 · rename_i n
   rw [crun_ite, cond_eq_ite] at h
   split at h
   · rename_i hc
     obtain ⟨h0, h1⟩ := of_decide_eq_true hc
     have := List.all_eq_true.1 dr_all n.toNat (List.mem_range.2 (by omega))
     rw [show ((n.toNat : Nat) : Int) = n by omega] at this
     exact (eqR_eq this).trans h
   · cases h
 · cases h)
end Go.Proofs.YtpelignoebgkbaaDoor
/- The reference's ParseMAC: its tree. -/
namespace Go.Proofs.YtpelignoebgkbaaDoor
open Go.Am
set_option maxRecDepth 100000
/- AddrCalls: the reference's ParseMAC, ParseESI: trees. -/
def ixC (s : List UInt8) (i : Int) (K : Int → CTree) : CTree := bif inB i s.length then K (s.getD i.toNat 0).toNat else .fail
def ixD (s : List UInt8) (i : Int) (K : Int → CTree) : CTree := ixC s i fun c => bif decide (0 ≤ c ∧ c ≤ 255) then K (dgR c) else .fail
def paR (s : List UInt8) (F : CTree) : Nat → Int → List Int → (List Int → CTree) → CTree
 | 0, _, vs, K => K vs
 | k + 1, i, vs, K => ixD s (w64 (3 * i)) fun a => ixD s (w64 (w64 (3 * i) + 1)) fun b => bif decide (a < 0) then F else bif decide (b < 0) then F else
   bif decide (i > 0) then ixC s (w64 (w64 (3 * i) - 1)) fun c => bif c != 58 then F else paR s F k (w64 (i + 1)) (vs ++ [w8 (w64 (w64 (16 * a) + b))]) K else paR s F k (w64 (i + 1)) (vs ++ [w8 (w64 (w64 (16 * a) + b))]) K
def paC (s : List UInt8) (n : Nat) (F : CTree) (K : List Int → CTree) : CTree := bif (s.length : Int) != w64 (w64 (3 * n) - 1) then F else paR s F n 0 [] K
def plO (a b : Int) : Int := IntKind.u64.wrap (IntKind.u64.wrap (a * 256) + IntKind.u64.wrap b)
theorem plO_v {a b : Int} (h0 : 0 ≤ a) (b0 : 0 ≤ b) (h : a * 256 + b < 18446744073709551616) : plO a b = a * 256 + b := by
 unfold plO
 rw [show IntKind.u64.wrap (a * 256) = a * 256 from wu64_idU (by omega) (by omega), show IntKind.u64.wrap b = b from wu64_idU (by omega) (by omega)]
 exact wu64_idU (by omega) (by omega)
def plMr (l : List Int) : Int := plO (plO (plO (plO (plO (plO 0 (l.getD 0 0)) (l.getD 1 0)) (l.getD 2 0)) (l.getD 3 0)) (l.getD 4 0)) (l.getD 5 0)
theorem pmx_t (s : List UInt8) : opn (tbl [(54, dr_s)]) Tryd.f16 [.str s] [] = paC s 6 (.ret (.tup [.int .u64 0, .int .i64 19]) []) fun l => .ret (.tup [.int .u64 (plMr l), .int .i64 0]) [] := by kernel_rfl
end Go.Proofs.YtpelignoebgkbaaDoor
/- Groups of two digits, two ways. -/
namespace Go.Proofs.YtpelignoebgkbaaDoor
open Go.Am
set_option maxRecDepth 100000
def prV (a b : UInt8) : Int := w8 (w64 (w64 (16 * dgR a.toNat) + dgR b.toNat))
def prB (a b : UInt8) : Bool := decide (0 ≤ dgR a.toNat) && decide (0 ≤ dgR b.toNat)
def grF : Nat → List UInt8 → Option (List Int)
 | 1, [a, b] => bif prB a b then some [prV a b] else none
 | m + 2, a :: b :: c :: r => bif prB a b && c == 58 then (grF (m + 1) r).map (prV a b :: ·) else none
 | _, _ => none
theorem dgR_all : ((List.range 256).all fun k => bif decide (0 ≤ dgR ((k : Nat) : Int)) then decide (dgt ((k : Nat) : Int) 16 < 16 ∧ 0 ≤ dgt ((k : Nat) : Int) 16 ∧ dgR ((k : Nat) : Int) = dgt ((k : Nat) : Int) 16 ∧ k ≠ 58) else decide (16 ≤ dgt ((k : Nat) : Int) 16)) = true := by kernel_rfl
theorem dgR_ok {c : UInt8} (h : 0 ≤ dgR c.toNat) : dgt c.toNat 16 < 16 ∧ 0 ≤ dgt c.toNat 16 ∧ dgR c.toNat = dgt c.toNat 16 ∧ c ≠ 58 := by
 have := List.all_eq_true.1 dgR_all c.toNat (List.mem_range.2 c.toNat_lt)
 rw [decide_eq_true h, cond_true] at this
 obtain ⟨h1, h2, h3, h4⟩ := of_decide_eq_true this
 exact ⟨h1, h2, h3, fun e => h4 (by rw [e]; rfl)⟩
theorem dgR_no {c : UInt8} (h : ¬ 0 ≤ dgR c.toNat) : 16 ≤ dgt c.toNat 16 := by
 have := List.all_eq_true.1 dgR_all c.toNat (List.mem_range.2 c.toNat_lt)
 rw [decide_eq_false h, cond_false] at this
 exact of_decide_eq_true this
theorem prB_iff {a b : UInt8} : prB a b = true ↔ 0 ≤ dgR a.toNat ∧ 0 ≤ dgR b.toNat := by simp [prB]
theorem prV_v {a b : UInt8} (h : prB a b = true) : prV a b = dgt a.toNat 16 * 16 + dgt b.toNat 16 ∧ a ≠ 58 ∧ b ≠ 58 ∧ hexF [a, b] = (prV a b, true) ∧ 0 ≤ prV a b ∧ prV a b ≤ 255 := by
 obtain ⟨ha, hb⟩ := prB_iff.1 h
 obtain ⟨a1, a2, a3, a4⟩ := dgR_ok ha
 obtain ⟨b1, b2, b3, b4⟩ := dgR_ok hb
 have hv : prV a b = dgt a.toNat 16 * 16 + dgt b.toNat 16 := by
  unfold prV
  rw [a3, b3, show w64 (16 * dgt a.toNat 16) = 16 * dgt a.toNat 16 from w64_id (by omega) (by omega), show w64 (16 * dgt a.toNat 16 + dgt b.toNat 16) = 16 * dgt a.toNat 16 + dgt b.toNat 16 from w64_id (by omega) (by omega), show w8 (16 * dgt a.toNat 16 + dgt b.toNat 16) = 16 * dgt a.toNat 16 + dgt b.toNat 16 from w8_id (by omega) (by omega)]
  omega
 refine ⟨hv, a4, b4, ?_, by omega, by omega⟩
 rw [hv]
 unfold hexF dgV
 have e : dgS 16 255 [a, b] 0 = some (dgt a.toNat 16 * 16 + dgt b.toNat 16) := by
  unfold dgS
  rw [decide_eq_false (show ¬ dgt a.toNat 16 ≥ 16 by omega), cond_false, decide_eq_false (show ¬ 0 * 16 + dgt a.toNat 16 > 255 by omega), cond_false]
  unfold dgS
  rw [decide_eq_false (show ¬ dgt b.toNat 16 ≥ 16 by omega), cond_false, decide_eq_false (show ¬ (0 * 16 + dgt a.toNat 16) * 16 + dgt b.toNat 16 > 255 by omega), cond_false]
  unfold dgS
  rw [show (0 * 16 + dgt a.toNat 16) * 16 + dgt b.toNat 16 = dgt a.toNat 16 * 16 + dgt b.toNat 16 by omega]
 rw [e]
 rfl
theorem hexF_pr {s : List UInt8} {v : Int} (h : hexF s = (v, true)) : ∃ a b, s = [a, b] ∧ prB a b = true ∧ v = prV a b := by
 have h0 := h
 unfold hexF at h
 cases hz : ((s.length : Int) != 2) with
 | true => rw [hz] at h; cases h
 | false =>
  rw [hz, cond_false] at h
  have h2 : s.length = 2 := by
   have : (s.length : Int) = 2 := by simpa using hz
   omega
  unfold dgV at h
  cases hq : dgS 16 255 s 0 with
  | none => rw [hq] at h; cases h
  | some w =>
   match s, h2, hq, h0 with
   | [c1, c2], _, hq, h0 =>
    obtain ⟨a1, h1⟩ := dgS16_cons hq
    obtain ⟨b1, _⟩ := dgS16_cons h1
    have hp : prB c1 c2 = true := prB_iff.2 ⟨by
     by_cases g : 0 ≤ dgR c1.toNat
     · exact g
     · have := dgR_no g; omega, by
     by_cases g : 0 ≤ dgR c2.toNat
     · exact g
     · have := dgR_no g; omega⟩
    refine ⟨c1, c2, rfl, hp, ?_⟩
    have := (prV_v hp).2.2.2.1
    rw [this] at h0
    exact (congrArg Prod.fst h0).symm
theorem gr_sp : ∀ {k : Nat} {s : List UInt8} {l : List Int}, grF k s = some l → spF hexF 58 k s = some l
 | 0, _, _, h => by cases h
 | 1, [a, b], l, h => by
  unfold grF at h
  cases hp : prB a b with
  | false => rw [hp] at h; cases h
  | true =>
   rw [hp] at h; cases h
   obtain ⟨-, h1, h2, h3, -⟩ := prV_v hp
   exact spF_last (by intro y hy; simp at hy; rcases hy with rfl | rfl <;> assumption) h3
 | m + 2, a :: b :: c :: r, l, h => by
  unfold grF at h
  cases hp : prB a b && c == 58 with
  | false => rw [hp] at h; cases h
  | true =>
   rw [hp, cond_true] at h
   simp only [Bool.and_eq_true, beq_iff_eq] at hp
   obtain ⟨hp, rfl⟩ := hp
   obtain ⟨-, h1, h2, h3, -⟩ := prV_v hp
   obtain ⟨t, ht, rfl⟩ := Option.map_eq_some_iff.1 h
   exact spF_more (a := [a, b]) (by intro y hy; simp at hy; rcases hy with rfl | rfl <;> assumption) h3 (gr_sp ht)
 | 1, [], _, h => by cases h
 | 1, [_], _, h => by cases h
 | 1, _ :: _ :: _ :: _, _, h => by cases h
 | _ + 2, [], _, h => by cases h
 | _ + 2, [_], _, h => by cases h
 | _ + 2, [_, _], _, h => by cases h
theorem sp_gr : ∀ {k : Nat} {s : List UInt8} {l : List Int}, spF hexF 58 k s = some l → grF k s = some l ∧ s.length + 1 = 3 * k
 | 0, _, _, h => by cases h
 | k + 1, s, l, h => by
  rcases spF_back h with ⟨rfl, v, hr, rfl⟩ | ⟨x, t, v, r, rfl, hr, ht, rfl⟩
  · obtain ⟨a, b, rfl, hp, rfl⟩ := hexF_pr hr
    refine ⟨?_, rfl⟩
    unfold grF; rw [hp]; rfl
  · obtain ⟨a, b, rfl, hp, rfl⟩ := hexF_pr hr
    obtain ⟨g1, g2⟩ := sp_gr ht
    cases k with
    | zero => cases ht
    | succ k =>
     refine ⟨?_, by simp; omega⟩
     show grF (k + 2) (a :: b :: 58 :: t) = _
     unfold grF
     rw [hp, g1]; rfl
end Go.Proofs.YtpelignoebgkbaaDoor
