/- What has been written is read. -/
import Derived.Test.YtnlmhpancboddaaGreatPart5
set_option linter.unusedVariables false
set_option linter.unusedSimpArgs false
namespace Go.Proofs.YtnlmhpancboddaaGreat
open Go.Am
set_option maxRecDepth 100000
def RD (s L : Nat) : Rd := ⟨s, L, 0, 0⟩
theorem few_RD {s L k : Nat} (h : s + k ≤ L) : (RD s L).few k = false := by
 unfold Rd.few RD; exact decide_eq_false (by simp only []; omega)
theorem num_RD {s L k : Nat} {es : List SV} (h : s + k ≤ L) : (RD s L).num es k = tkN es s k := by
 unfold Rd.num; rw [few_RD h]; rfl
theorem adv_RD {s L k : Nat} (h : s + k ≤ L) : (RD s L).adv k = RD (s + k) L := by
 unfold Rd.adv; rw [few_RD h]
 simp only [RD, cond_false, bne_self_eq_false, Rd.mk.injEq, and_true]
 omega
theorem sub_RD {s L k : Nat} {es : List SV} (h : s + k ≤ L) : (RD s L).sub es k = (es.drop s).take k := by
 unfold Rd.sub; rw [few_RD h]; rfl
theorem be_at (n : Int) : ∀ (k j : Nat), j < k → (be n k)[j]? = some (.int .u8 (n / 256 ^ (k - 1 - j) % 256))
 | 0, j, h => by omega
 | k + 1, 0, _ => by simp [be]
 | k + 1, j + 1, h => by
  simp only [be, List.getElem?_cons_succ]
  rw [be_at n k j (by omega), show k + 1 - 1 - (j + 1) = k - 1 - j by omega]
theorem dg_be {pre post : List SV} {n : Int} {k j : Nat} (h : j < k) : dg (pre ++ (be n k ++ post)) (pre.length + j) = n / 256 ^ (k - 1 - j) % 256 := by
 unfold dg
 rw [List.getD_eq_getElem?_getD, List.getElem?_append_right (by omega), Nat.add_sub_cancel_left, List.getElem?_append_left (by rw [be_len]; exact h), be_at n k j h]
 rfl
theorem tk_be {pre post : List SV} {n : Int} {k : Nat} : ∀ j, j ≤ k → tkN (pre ++ (be n k ++ post)) pre.length j = n / 256 ^ (k - j) % 256 ^ j
 | 0, _ => by simp [tkN, Int.emod_one]
 | j + 1, h => by
  rw [tkN, tk_be j (by omega), dg_be (by omega)]
  have e1 : k - j = (k - (j + 1)) + 1 := by omega
  have e2 : k - 1 - j = k - (j + 1) := by omega
  rw [e1, e2, Int.pow_succ (256 : Int) (k - (j + 1)), ← Int.ediv_ediv_of_nonneg (Int.pow_nonneg (by decide)), Int.pow_succ]
  generalize n / 256 ^ (k - (j + 1)) = m
  have hp : (0 : Int) < 256 ^ j := Int.pow_pos (by decide)
  generalize (256 : Int) ^ j = p at hp ⊢
  have h1 := Int.emod_nonneg (m / 256) (show p ≠ 0 by omega)
  have h2 := Int.emod_lt_of_pos (m / 256) hp
  have h3 := Int.emod_add_mul_ediv (m / 256) p
  have h4 := Int.emod_add_mul_ediv m 256
  have h5 := Int.emod_nonneg m (show (256 : Int) ≠ 0 by decide)
  have h6 := Int.emod_lt_of_pos m (show (0 : Int) < 256 by decide)
  have e3 : m = (m / 256 % p * 256 + m % 256) + (p * 256) * (m / 256 / p) := by
   have : p * (m / 256 / p) * 256 = (p * 256) * (m / 256 / p) := by rw [Int.mul_right_comm]
   omega
  have key : ∀ (r b q P : Int), 0 ≤ r * 256 + b → r * 256 + b < P → (r * 256 + b + P * q) % P = r * 256 + b := by
   intro r b q P h7 h8
   rw [Int.add_mul_emod_self_left, Int.emod_eq_of_lt h7 h8]
  have h9 := key (m / 256 % p) (m % 256) (m / 256 / p) (p * 256) (by omega) (by omega)
  rw [← e3] at h9
  exact h9.symm
theorem tk_at {xs pre post : List SV} {n : Int} {k s : Nat} (hx : xs = pre ++ (be n k ++ post)) (hs : s = pre.length) (h0 : 0 ≤ n) (h1 : n < 256 ^ k) : tkN xs s k = n := by
 subst hx hs
 rw [tk_be k (Nat.le_refl _), Nat.sub_self, Int.pow_zero, Int.ediv_one, Int.emod_eq_of_lt h0 h1]
theorem w3_id {n : Int} (h0 : 0 ≤ n) (h1 : n < 4294967296) : w3 n = n := by
 simp [w3, IntKind.wrap, IntKind.bits, IntKind.signed]; omega
structure Reads (N : List SV → Rd → Nl → Nl) (R : List SV → Rd → Rd) (val : Nl → List SV) (n : Nl) : Prop where
 nl : N (val n) (RD 0 (val n).length) (zK n.kind) = n
 er : (R (val n) (RD 0 (val n).length)).err = 0
 le : (R (val n) (RD 0 (val n).length)).end_ = (R (val n) (RD 0 (val n).length)).at_
theorem fm_of {n : Nl} (h : chk n = 0) : fm n = true := by
 unfold chk at h
 cases c1 : (decide (n.kind < 1) || decide (n.kind > 5)) with
 | true => rw [c1] at h; cases h
 | false =>
  rw [c1, cond_false] at h
  cases c2 : fm n with
  | false => rw [c2] at h; cases h
  | true => rfl
theorem reads1 {rd e0 e1 e2 e3 e4 e5 e6 e7 e8 e9 tag lab : Int} (ho : OkP ⟨1, rd, e0, e1, e2, e3, e4, e5, e6, e7, e8, e9, tag, 0, 0, false, 0, 0, 0, lab, 0⟩) : Reads g1N (fun _ r => g1R r) val1 ⟨1, rd, e0, e1, e2, e3, e4, e5, e6, e7, e8, e9, tag, 0, 0, false, 0, 0, 0, lab, 0⟩ := by
 have hx' : val1 ⟨1, rd, e0, e1, e2, e3, e4, e5, e6, e7, e8, e9, tag, 0, 0, false, 0, 0, 0, lab, 0⟩ = be rd 8 ++ [.int .u8 e0, .int .u8 e1, .int .u8 e2, .int .u8 e3, .int .u8 e4, .int .u8 e5, .int .u8 e6, .int .u8 e7, .int .u8 e8, .int .u8 e9] ++ be tag 4 ++ be lab 3 := by simp [val1]
 have hl : (val1 ⟨1, rd, e0, e1, e2, e3, e4, e5, e6, e7, e8, e9, tag, 0, 0, false, 0, 0, 0, lab, 0⟩).length = 25 := by rw [hx']; simp [be_len]
 generalize hx : val1 ⟨1, rd, e0, e1, e2, e3, e4, e5, e6, e7, e8, e9, tag, 0, 0, false, 0, 0, 0, lab, 0⟩ = xs at hl hx'
 have t0 : tkN xs 0 8 = rd := tk_at (pre := []) (by rw [hx']; simp only [List.nil_append, List.append_assoc]; rfl) (by simp) ho.rd0 ho.rd1
 have t1 : (xs.drop 8).take 10 = [.int .u8 e0, .int .u8 e1, .int .u8 e2, .int .u8 e3, .int .u8 e4, .int .u8 e5, .int .u8 e6, .int .u8 e7, .int .u8 e8, .int .u8 e9] := by rw [hx']; rfl
 have t2 : tkN xs 18 4 = tag := tk_at (pre := be rd 8 ++ [.int .u8 e0, .int .u8 e1, .int .u8 e2, .int .u8 e3, .int .u8 e4, .int .u8 e5, .int .u8 e6, .int .u8 e7, .int .u8 e8, .int .u8 e9]) (by rw [hx']; simp only [List.append_assoc]; rfl) (by simp [be_len]) ho.tag0 ho.tag1
 have t3 : tkN xs 22 3 = lab := tk_at (pre := be rd 8 ++ [.int .u8 e0, .int .u8 e1, .int .u8 e2, .int .u8 e3, .int .u8 e4, .int .u8 e5, .int .u8 e6, .int .u8 e7, .int .u8 e8, .int .u8 e9] ++ be tag 4) (post := []) (by rw [hx']; simp only [List.append_assoc, List.append_nil]) (by simp [be_len]) ho.lab0 ho.lab1
 refine ⟨?_, ?_, ?_⟩
 · rw [hx, hl]
   unfold g1N ids
   simp (disch := omega) only [adv_RD, num_RD, sub_RD, Nat.reduceAdd, t0, t1, t2, t3]
   rw [w3_id (n := tag) ho.tag0 ho.tag1, w3_id (n := lab) ho.lab0 (Int.lt_trans ho.lab1 (by decide))]
   rfl
 · rw [hx, hl]; unfold g1R; simp (disch := omega) only [adv_RD, Nat.reduceAdd]; rfl
 · rw [hx, hl]; unfold g1R; simp (disch := omega) only [adv_RD, Nat.reduceAdd]; rfl
theorem reads5 {rd e0 e1 e2 e3 e4 e5 e6 e7 e8 e9 tag pip plen gw lab : Int} (ho : OkP ⟨5, rd, e0, e1, e2, e3, e4, e5, e6, e7, e8, e9, tag, 0, 0, false, pip, plen, gw, lab, 0⟩) : Reads g5N (fun _ r => g5R r) val5 ⟨5, rd, e0, e1, e2, e3, e4, e5, e6, e7, e8, e9, tag, 0, 0, false, pip, plen, gw, lab, 0⟩ := by
 have hx' : val5 ⟨5, rd, e0, e1, e2, e3, e4, e5, e6, e7, e8, e9, tag, 0, 0, false, pip, plen, gw, lab, 0⟩ = be rd 8 ++ [.int .u8 e0, .int .u8 e1, .int .u8 e2, .int .u8 e3, .int .u8 e4, .int .u8 e5, .int .u8 e6, .int .u8 e7, .int .u8 e8, .int .u8 e9] ++ be tag 4 ++ be plen 1 ++ be pip 4 ++ be gw 4 ++ be lab 3 := by simp [val5]
 have hl : (val5 ⟨5, rd, e0, e1, e2, e3, e4, e5, e6, e7, e8, e9, tag, 0, 0, false, pip, plen, gw, lab, 0⟩).length = 34 := by rw [hx']; simp [be_len]
 generalize hx : val5 ⟨5, rd, e0, e1, e2, e3, e4, e5, e6, e7, e8, e9, tag, 0, 0, false, pip, plen, gw, lab, 0⟩ = xs at hl hx'
 have t0 : tkN xs 0 8 = rd := tk_at (pre := []) (by rw [hx']; simp only [List.nil_append, List.append_assoc]; rfl) (by simp) ho.rd0 ho.rd1
 have t1 : (xs.drop 8).take 10 = [.int .u8 e0, .int .u8 e1, .int .u8 e2, .int .u8 e3, .int .u8 e4, .int .u8 e5, .int .u8 e6, .int .u8 e7, .int .u8 e8, .int .u8 e9] := by rw [hx']; rfl
 have t2 : tkN xs 18 4 = tag := tk_at (pre := be rd 8 ++ [.int .u8 e0, .int .u8 e1, .int .u8 e2, .int .u8 e3, .int .u8 e4, .int .u8 e5, .int .u8 e6, .int .u8 e7, .int .u8 e8, .int .u8 e9]) (by rw [hx']; simp only [List.append_assoc]; rfl) (by simp [be_len]) ho.tag0 ho.tag1
 have t3 : tkN xs 22 1 = plen := tk_at (pre := be rd 8 ++ [.int .u8 e0, .int .u8 e1, .int .u8 e2, .int .u8 e3, .int .u8 e4, .int .u8 e5, .int .u8 e6, .int .u8 e7, .int .u8 e8, .int .u8 e9] ++ be tag 4) (by rw [hx']; simp only [List.append_assoc]; rfl) (by simp [be_len]) ho.pl0 ho.pl1
 have t4 : tkN xs 23 4 = pip := tk_at (pre := be rd 8 ++ [.int .u8 e0, .int .u8 e1, .int .u8 e2, .int .u8 e3, .int .u8 e4, .int .u8 e5, .int .u8 e6, .int .u8 e7, .int .u8 e8, .int .u8 e9] ++ be tag 4 ++ be plen 1) (by rw [hx']; simp only [List.append_assoc]; rfl) (by simp [be_len]) ho.pip0 ho.pip1
 have t5 : tkN xs 27 4 = gw := tk_at (pre := be rd 8 ++ [.int .u8 e0, .int .u8 e1, .int .u8 e2, .int .u8 e3, .int .u8 e4, .int .u8 e5, .int .u8 e6, .int .u8 e7, .int .u8 e8, .int .u8 e9] ++ be tag 4 ++ be plen 1 ++ be pip 4) (by rw [hx']; simp only [List.append_assoc]; rfl) (by simp [be_len]) ho.gw0 ho.gw1
 have t6 : tkN xs 31 3 = lab := tk_at (pre := be rd 8 ++ [.int .u8 e0, .int .u8 e1, .int .u8 e2, .int .u8 e3, .int .u8 e4, .int .u8 e5, .int .u8 e6, .int .u8 e7, .int .u8 e8, .int .u8 e9] ++ be tag 4 ++ be plen 1 ++ be pip 4 ++ be gw 4) (post := []) (by rw [hx']; simp only [List.append_assoc, List.append_nil]) (by simp [be_len]) ho.lab0 ho.lab1
 refine ⟨?_, ?_, ?_⟩
 · rw [hx, hl]
   unfold g5N ids g5r
   simp (disch := omega) only [adv_RD, num_RD, sub_RD, Nat.reduceAdd, t0, t1, t2, t3, t4, t5, t6]
   rw [w3_id (n := tag) ho.tag0 ho.tag1, w3_id (n := pip) ho.pip0 ho.pip1, w3_id (n := gw) ho.gw0 ho.gw1, w3_id (n := lab) ho.lab0 (Int.lt_trans ho.lab1 (by decide)), w64_id (n := plen) (by have := ho.pl0; simp only at this; omega) (by have := ho.pl1; simp only at this; omega)]
   rfl
 · rw [hx, hl]; unfold g5R g5r; simp (disch := omega) only [adv_RD, Nat.reduceAdd]; rfl
 · rw [hx, hl]; unfold g5R g5r; simp (disch := omega) only [adv_RD, Nat.reduceAdd]; rfl
theorem reads3 {rd tag ip : Int} (ho : OkP ⟨3, rd, 0, 0, 0, 0, 0, 0, 0, 0, 0, 0, tag, 0, ip, true, 0, 0, 0, 0, 0⟩) : Reads g3N g3R val3 ⟨3, rd, 0, 0, 0, 0, 0, 0, 0, 0, 0, 0, tag, 0, ip, true, 0, 0, 0, 0, 0⟩ := by
 have hx' : val3 ⟨3, rd, 0, 0, 0, 0, 0, 0, 0, 0, 0, 0, tag, 0, ip, true, 0, 0, 0, 0, 0⟩ = be rd 8 ++ be tag 4 ++ be 32 1 ++ be ip 4 := by simp [val3]
 have hl : (val3 ⟨3, rd, 0, 0, 0, 0, 0, 0, 0, 0, 0, 0, tag, 0, ip, true, 0, 0, 0, 0, 0⟩).length = 17 := by rw [hx']; simp [be_len]
 generalize hx : val3 ⟨3, rd, 0, 0, 0, 0, 0, 0, 0, 0, 0, 0, tag, 0, ip, true, 0, 0, 0, 0, 0⟩ = xs at hl hx'
 have t0 : tkN xs 0 8 = rd := tk_at (pre := []) (by rw [hx']; simp only [List.nil_append, List.append_assoc]; rfl) (by simp) ho.rd0 ho.rd1
 have t1 : tkN xs 8 4 = tag := tk_at (pre := be rd 8) (by rw [hx']; simp only [List.append_assoc]; rfl) (by simp [be_len]) ho.tag0 ho.tag1
 have t2 : tkN xs 12 1 = 32 := tk_at (pre := be rd 8 ++ be tag 4) (by rw [hx']; simp only [List.append_assoc]; rfl) (by simp [be_len]) (by decide) (by decide)
 have t3 : tkN xs 13 4 = ip := tk_at (pre := be rd 8 ++ be tag 4 ++ be 32 1) (post := []) (by rw [hx']; simp only [List.append_assoc, List.append_nil]) (by simp [be_len]) ho.ip0 ho.ip1
 refine ⟨?_, ?_, ?_⟩
 · rw [hx, hl]
   unfold g3N hostN
   simp (disch := omega) only [adv_RD, num_RD, Nat.reduceAdd, t0, t1, t2, t3, beq_self_eq_true, cond_true]
   rw [w3_id (n := tag) ho.tag0 ho.tag1, w3_id (n := ip) ho.ip0 ho.ip1]
   rfl
 · rw [hx, hl]; unfold g3R hostR; simp (disch := omega) only [adv_RD, num_RD, Nat.reduceAdd, t2, beq_self_eq_true, cond_true]; rfl
 · rw [hx, hl]; unfold g3R hostR; simp (disch := omega) only [adv_RD, num_RD, Nat.reduceAdd, t2, beq_self_eq_true, cond_true]; rfl
theorem reads4 {rd e0 e1 e2 e3 e4 e5 e6 e7 e8 e9 ip : Int} (ho : OkP ⟨4, rd, e0, e1, e2, e3, e4, e5, e6, e7, e8, e9, 0, 0, ip, true, 0, 0, 0, 0, 0⟩) : Reads g4N g4R val4 ⟨4, rd, e0, e1, e2, e3, e4, e5, e6, e7, e8, e9, 0, 0, ip, true, 0, 0, 0, 0, 0⟩ := by
 have hx' : val4 ⟨4, rd, e0, e1, e2, e3, e4, e5, e6, e7, e8, e9, 0, 0, ip, true, 0, 0, 0, 0, 0⟩ = be rd 8 ++ [.int .u8 e0, .int .u8 e1, .int .u8 e2, .int .u8 e3, .int .u8 e4, .int .u8 e5, .int .u8 e6, .int .u8 e7, .int .u8 e8, .int .u8 e9] ++ be 32 1 ++ be ip 4 := by simp [val4]
 have hl : (val4 ⟨4, rd, e0, e1, e2, e3, e4, e5, e6, e7, e8, e9, 0, 0, ip, true, 0, 0, 0, 0, 0⟩).length = 23 := by rw [hx']; simp [be_len]
 generalize hx : val4 ⟨4, rd, e0, e1, e2, e3, e4, e5, e6, e7, e8, e9, 0, 0, ip, true, 0, 0, 0, 0, 0⟩ = xs at hl hx'
 have t0 : tkN xs 0 8 = rd := tk_at (pre := []) (by rw [hx']; simp only [List.nil_append, List.append_assoc]; rfl) (by simp) ho.rd0 ho.rd1
 have t1 : (xs.drop 8).take 10 = [.int .u8 e0, .int .u8 e1, .int .u8 e2, .int .u8 e3, .int .u8 e4, .int .u8 e5, .int .u8 e6, .int .u8 e7, .int .u8 e8, .int .u8 e9] := by rw [hx']; rfl
 have t2 : tkN xs 18 1 = 32 := tk_at (pre := be rd 8 ++ [.int .u8 e0, .int .u8 e1, .int .u8 e2, .int .u8 e3, .int .u8 e4, .int .u8 e5, .int .u8 e6, .int .u8 e7, .int .u8 e8, .int .u8 e9]) (by rw [hx']; simp only [List.append_assoc]; rfl) (by simp [be_len]) (by decide) (by decide)
 have t3 : tkN xs 19 4 = ip := tk_at (pre := be rd 8 ++ [.int .u8 e0, .int .u8 e1, .int .u8 e2, .int .u8 e3, .int .u8 e4, .int .u8 e5, .int .u8 e6, .int .u8 e7, .int .u8 e8, .int .u8 e9] ++ be 32 1) (post := []) (by rw [hx']; simp only [List.append_assoc, List.append_nil]) (by simp [be_len]) ho.ip0 ho.ip1
 refine ⟨?_, ?_, ?_⟩
 · rw [hx, hl]
   unfold g4N hostN ids
   simp (disch := omega) only [adv_RD, num_RD, sub_RD, Nat.reduceAdd, t0, t1, t2, t3, beq_self_eq_true, cond_true]
   rw [w3_id (n := ip) ho.ip0 ho.ip1]
   rfl
 · rw [hx, hl]; unfold g4R hostR; simp (disch := omega) only [adv_RD, num_RD, Nat.reduceAdd, t2, beq_self_eq_true, cond_true]; rfl
 · rw [hx, hl]; unfold g4R hostR; simp (disch := omega) only [adv_RD, num_RD, Nat.reduceAdd, t2, beq_self_eq_true, cond_true]; rfl
theorem reads2a {rd e0 e1 e2 e3 e4 e5 e6 e7 e8 e9 tag mac ip lab : Int} (ho : OkP ⟨2, rd, e0, e1, e2, e3, e4, e5, e6, e7, e8, e9, tag, mac, ip, true, 0, 0, 0, lab, 0⟩) : Reads g2N g2R val2 ⟨2, rd, e0, e1, e2, e3, e4, e5, e6, e7, e8, e9, tag, mac, ip, true, 0, 0, 0, lab, 0⟩ := by
 have hx' : val2 ⟨2, rd, e0, e1, e2, e3, e4, e5, e6, e7, e8, e9, tag, mac, ip, true, 0, 0, 0, lab, 0⟩ = be rd 8 ++ [.int .u8 e0, .int .u8 e1, .int .u8 e2, .int .u8 e3, .int .u8 e4, .int .u8 e5, .int .u8 e6, .int .u8 e7, .int .u8 e8, .int .u8 e9] ++ be tag 4 ++ be 48 1 ++ be mac 6 ++ be 32 1 ++ be ip 4 ++ be lab 3 := by simp [val2]
 have hl : (val2 ⟨2, rd, e0, e1, e2, e3, e4, e5, e6, e7, e8, e9, tag, mac, ip, true, 0, 0, 0, lab, 0⟩).length = 37 := by rw [hx']; simp [be_len]
 generalize hx : val2 ⟨2, rd, e0, e1, e2, e3, e4, e5, e6, e7, e8, e9, tag, mac, ip, true, 0, 0, 0, lab, 0⟩ = xs at hl hx'
 have t0 : tkN xs 0 8 = rd := tk_at (pre := []) (by rw [hx']; simp only [List.nil_append, List.append_assoc]; rfl) (by simp) ho.rd0 ho.rd1
 have t1 : (xs.drop 8).take 10 = [.int .u8 e0, .int .u8 e1, .int .u8 e2, .int .u8 e3, .int .u8 e4, .int .u8 e5, .int .u8 e6, .int .u8 e7, .int .u8 e8, .int .u8 e9] := by rw [hx']; rfl
 have t2 : tkN xs 18 4 = tag := tk_at (pre := be rd 8 ++ [.int .u8 e0, .int .u8 e1, .int .u8 e2, .int .u8 e3, .int .u8 e4, .int .u8 e5, .int .u8 e6, .int .u8 e7, .int .u8 e8, .int .u8 e9]) (by rw [hx']; simp only [List.append_assoc]; rfl) (by simp [be_len]) ho.tag0 ho.tag1
 have t3 : tkN xs 22 1 = 48 := tk_at (pre := be rd 8 ++ [.int .u8 e0, .int .u8 e1, .int .u8 e2, .int .u8 e3, .int .u8 e4, .int .u8 e5, .int .u8 e6, .int .u8 e7, .int .u8 e8, .int .u8 e9] ++ be tag 4) (by rw [hx']; simp only [List.append_assoc]; rfl) (by simp [be_len]) (by decide) (by decide)
 have t4 : tkN xs 23 6 = mac := tk_at (pre := be rd 8 ++ [.int .u8 e0, .int .u8 e1, .int .u8 e2, .int .u8 e3, .int .u8 e4, .int .u8 e5, .int .u8 e6, .int .u8 e7, .int .u8 e8, .int .u8 e9] ++ be tag 4 ++ be 48 1) (by rw [hx']; simp only [List.append_assoc]; rfl) (by simp [be_len]) ho.mac0 ho.mac1
 have t5 : tkN xs 29 1 = 32 := tk_at (pre := be rd 8 ++ [.int .u8 e0, .int .u8 e1, .int .u8 e2, .int .u8 e3, .int .u8 e4, .int .u8 e5, .int .u8 e6, .int .u8 e7, .int .u8 e8, .int .u8 e9] ++ be tag 4 ++ be 48 1 ++ be mac 6) (by rw [hx']; simp only [List.append_assoc]; rfl) (by simp [be_len]) (by decide) (by decide)
 have t6 : tkN xs 30 4 = ip := tk_at (pre := be rd 8 ++ [.int .u8 e0, .int .u8 e1, .int .u8 e2, .int .u8 e3, .int .u8 e4, .int .u8 e5, .int .u8 e6, .int .u8 e7, .int .u8 e8, .int .u8 e9] ++ be tag 4 ++ be 48 1 ++ be mac 6 ++ be 32 1) (by rw [hx']; simp only [List.append_assoc]; rfl) (by simp [be_len]) ho.ip0 ho.ip1
 have t7 : tkN xs 34 3 = lab := tk_at (pre := be rd 8 ++ [.int .u8 e0, .int .u8 e1, .int .u8 e2, .int .u8 e3, .int .u8 e4, .int .u8 e5, .int .u8 e6, .int .u8 e7, .int .u8 e8, .int .u8 e9] ++ be tag 4 ++ be 48 1 ++ be mac 6 ++ be 32 1 ++ be ip 4) (post := []) (by rw [hx']; simp only [List.append_assoc, List.append_nil]) (by simp [be_len]) ho.lab0 ho.lab1
 refine ⟨?_, ?_, ?_⟩
 · rw [hx, hl]
   unfold g2N g2n g2r hostN hostR ids
   simp (disch := omega) only [adv_RD, num_RD, sub_RD, Nat.reduceAdd, t0, t1, t2, t4, t5, t6, t7, beq_self_eq_true, cond_true, show decide (left (RD 37 37) > 0) = false from rfl, cond_true, cond_false]
   rw [w3_id (n := tag) ho.tag0 ho.tag1, w3_id (n := ip) ho.ip0 ho.ip1, w3_id (n := lab) ho.lab0 (Int.lt_trans ho.lab1 (by decide))]
   rfl
 · rw [hx, hl]; unfold g2R g2r hostR; simp (disch := omega) only [adv_RD, num_RD, Nat.reduceAdd, t5, beq_self_eq_true, cond_true, show decide (left (RD 37 37) > 0) = false from rfl, cond_true, cond_false]; rfl
 · rw [hx, hl]; unfold g2R g2r hostR; simp (disch := omega) only [adv_RD, num_RD, Nat.reduceAdd, t5, beq_self_eq_true, cond_true, show decide (left (RD 37 37) > 0) = false from rfl, cond_true, cond_false]; rfl
theorem reads2b {rd e0 e1 e2 e3 e4 e5 e6 e7 e8 e9 tag mac ip lab lab2 : Int} (ho : OkP ⟨2, rd, e0, e1, e2, e3, e4, e5, e6, e7, e8, e9, tag, mac, ip, true, 0, 0, 0, lab, lab2⟩) (h2 : (lab2 != 0) = true) : Reads g2N g2R val2 ⟨2, rd, e0, e1, e2, e3, e4, e5, e6, e7, e8, e9, tag, mac, ip, true, 0, 0, 0, lab, lab2⟩ := by
 have hx' : val2 ⟨2, rd, e0, e1, e2, e3, e4, e5, e6, e7, e8, e9, tag, mac, ip, true, 0, 0, 0, lab, lab2⟩ = be rd 8 ++ [.int .u8 e0, .int .u8 e1, .int .u8 e2, .int .u8 e3, .int .u8 e4, .int .u8 e5, .int .u8 e6, .int .u8 e7, .int .u8 e8, .int .u8 e9] ++ be tag 4 ++ be 48 1 ++ be mac 6 ++ be 32 1 ++ be ip 4 ++ be lab 3 ++ be lab2 3 := by simp [val2, h2]
 have hl : (val2 ⟨2, rd, e0, e1, e2, e3, e4, e5, e6, e7, e8, e9, tag, mac, ip, true, 0, 0, 0, lab, lab2⟩).length = 40 := by rw [hx']; simp [be_len]
 generalize hx : val2 ⟨2, rd, e0, e1, e2, e3, e4, e5, e6, e7, e8, e9, tag, mac, ip, true, 0, 0, 0, lab, lab2⟩ = xs at hl hx'
 have t0 : tkN xs 0 8 = rd := tk_at (pre := []) (by rw [hx']; simp only [List.nil_append, List.append_assoc]; rfl) (by simp) ho.rd0 ho.rd1
 have t1 : (xs.drop 8).take 10 = [.int .u8 e0, .int .u8 e1, .int .u8 e2, .int .u8 e3, .int .u8 e4, .int .u8 e5, .int .u8 e6, .int .u8 e7, .int .u8 e8, .int .u8 e9] := by rw [hx']; rfl
 have t2 : tkN xs 18 4 = tag := tk_at (pre := be rd 8 ++ [.int .u8 e0, .int .u8 e1, .int .u8 e2, .int .u8 e3, .int .u8 e4, .int .u8 e5, .int .u8 e6, .int .u8 e7, .int .u8 e8, .int .u8 e9]) (by rw [hx']; simp only [List.append_assoc]; rfl) (by simp [be_len]) ho.tag0 ho.tag1
 have t3 : tkN xs 22 1 = 48 := tk_at (pre := be rd 8 ++ [.int .u8 e0, .int .u8 e1, .int .u8 e2, .int .u8 e3, .int .u8 e4, .int .u8 e5, .int .u8 e6, .int .u8 e7, .int .u8 e8, .int .u8 e9] ++ be tag 4) (by rw [hx']; simp only [List.append_assoc]; rfl) (by simp [be_len]) (by decide) (by decide)
 have t4 : tkN xs 23 6 = mac := tk_at (pre := be rd 8 ++ [.int .u8 e0, .int .u8 e1, .int .u8 e2, .int .u8 e3, .int .u8 e4, .int .u8 e5, .int .u8 e6, .int .u8 e7, .int .u8 e8, .int .u8 e9] ++ be tag 4 ++ be 48 1) (by rw [hx']; simp only [List.append_assoc]; rfl) (by simp [be_len]) ho.mac0 ho.mac1
 have t5 : tkN xs 29 1 = 32 := tk_at (pre := be rd 8 ++ [.int .u8 e0, .int .u8 e1, .int .u8 e2, .int .u8 e3, .int .u8 e4, .int .u8 e5, .int .u8 e6, .int .u8 e7, .int .u8 e8, .int .u8 e9] ++ be tag 4 ++ be 48 1 ++ be mac 6) (by rw [hx']; simp only [List.append_assoc]; rfl) (by simp [be_len]) (by decide) (by decide)
 have t6 : tkN xs 30 4 = ip := tk_at (pre := be rd 8 ++ [.int .u8 e0, .int .u8 e1, .int .u8 e2, .int .u8 e3, .int .u8 e4, .int .u8 e5, .int .u8 e6, .int .u8 e7, .int .u8 e8, .int .u8 e9] ++ be tag 4 ++ be 48 1 ++ be mac 6 ++ be 32 1) (by rw [hx']; simp only [List.append_assoc]; rfl) (by simp [be_len]) ho.ip0 ho.ip1
 have t7 : tkN xs 34 3 = lab := tk_at (pre := be rd 8 ++ [.int .u8 e0, .int .u8 e1, .int .u8 e2, .int .u8 e3, .int .u8 e4, .int .u8 e5, .int .u8 e6, .int .u8 e7, .int .u8 e8, .int .u8 e9] ++ be tag 4 ++ be 48 1 ++ be mac 6 ++ be 32 1 ++ be ip 4) (by rw [hx']; simp only [List.append_assoc]; rfl) (by simp [be_len]) ho.lab0 ho.lab1
 have t8 : tkN xs 37 3 = lab2 := tk_at (pre := be rd 8 ++ [.int .u8 e0, .int .u8 e1, .int .u8 e2, .int .u8 e3, .int .u8 e4, .int .u8 e5, .int .u8 e6, .int .u8 e7, .int .u8 e8, .int .u8 e9] ++ be tag 4 ++ be 48 1 ++ be mac 6 ++ be 32 1 ++ be ip 4 ++ be lab 3) (post := []) (by rw [hx']; simp only [List.append_assoc, List.append_nil]) (by simp [be_len]) ho.lac0 ho.lac1
 refine ⟨?_, ?_, ?_⟩
 · rw [hx, hl]
   unfold g2N g2n g2r hostN hostR ids
   simp (disch := omega) only [adv_RD, num_RD, sub_RD, Nat.reduceAdd, t0, t1, t2, t4, t5, t6, t7, t8, beq_self_eq_true, cond_true, show decide (left (RD 37 40) > 0) = true from rfl, cond_true]
   rw [w3_id (n := tag) ho.tag0 ho.tag1, w3_id (n := ip) ho.ip0 ho.ip1, w3_id (n := lab) ho.lab0 (Int.lt_trans ho.lab1 (by decide)), w3_id (n := lab2) ho.lac0 (Int.lt_trans ho.lac1 (by decide))]
   rfl
 · rw [hx, hl]; unfold g2R g2r hostR; simp (disch := omega) only [adv_RD, num_RD, Nat.reduceAdd, t5, beq_self_eq_true, cond_true, show decide (left (RD 37 40) > 0) = true from rfl, cond_true]; rfl
 · rw [hx, hl]; unfold g2R g2r hostR; simp (disch := omega) only [adv_RD, num_RD, Nat.reduceAdd, t5, beq_self_eq_true, cond_true, show decide (left (RD 37 40) > 0) = true from rfl, cond_true]; rfl
theorem reads2c {rd e0 e1 e2 e3 e4 e5 e6 e7 e8 e9 tag mac lab : Int} (ho : OkP ⟨2, rd, e0, e1, e2, e3, e4, e5, e6, e7, e8, e9, tag, mac, 0, false, 0, 0, 0, lab, 0⟩) : Reads g2N g2R val2 ⟨2, rd, e0, e1, e2, e3, e4, e5, e6, e7, e8, e9, tag, mac, 0, false, 0, 0, 0, lab, 0⟩ := by
 have hx' : val2 ⟨2, rd, e0, e1, e2, e3, e4, e5, e6, e7, e8, e9, tag, mac, 0, false, 0, 0, 0, lab, 0⟩ = be rd 8 ++ [.int .u8 e0, .int .u8 e1, .int .u8 e2, .int .u8 e3, .int .u8 e4, .int .u8 e5, .int .u8 e6, .int .u8 e7, .int .u8 e8, .int .u8 e9] ++ be tag 4 ++ be 48 1 ++ be mac 6 ++ be 0 1 ++ be lab 3 := by simp [val2]
 have hl : (val2 ⟨2, rd, e0, e1, e2, e3, e4, e5, e6, e7, e8, e9, tag, mac, 0, false, 0, 0, 0, lab, 0⟩).length = 33 := by rw [hx']; simp [be_len]
 generalize hx : val2 ⟨2, rd, e0, e1, e2, e3, e4, e5, e6, e7, e8, e9, tag, mac, 0, false, 0, 0, 0, lab, 0⟩ = xs at hl hx'
 have t0 : tkN xs 0 8 = rd := tk_at (pre := []) (by rw [hx']; simp only [List.nil_append, List.append_assoc]; rfl) (by simp) ho.rd0 ho.rd1
 have t1 : (xs.drop 8).take 10 = [.int .u8 e0, .int .u8 e1, .int .u8 e2, .int .u8 e3, .int .u8 e4, .int .u8 e5, .int .u8 e6, .int .u8 e7, .int .u8 e8, .int .u8 e9] := by rw [hx']; rfl
 have t2 : tkN xs 18 4 = tag := tk_at (pre := be rd 8 ++ [.int .u8 e0, .int .u8 e1, .int .u8 e2, .int .u8 e3, .int .u8 e4, .int .u8 e5, .int .u8 e6, .int .u8 e7, .int .u8 e8, .int .u8 e9]) (by rw [hx']; simp only [List.append_assoc]; rfl) (by simp [be_len]) ho.tag0 ho.tag1
 have t3 : tkN xs 22 1 = 48 := tk_at (pre := be rd 8 ++ [.int .u8 e0, .int .u8 e1, .int .u8 e2, .int .u8 e3, .int .u8 e4, .int .u8 e5, .int .u8 e6, .int .u8 e7, .int .u8 e8, .int .u8 e9] ++ be tag 4) (by rw [hx']; simp only [List.append_assoc]; rfl) (by simp [be_len]) (by decide) (by decide)
 have t4 : tkN xs 23 6 = mac := tk_at (pre := be rd 8 ++ [.int .u8 e0, .int .u8 e1, .int .u8 e2, .int .u8 e3, .int .u8 e4, .int .u8 e5, .int .u8 e6, .int .u8 e7, .int .u8 e8, .int .u8 e9] ++ be tag 4 ++ be 48 1) (by rw [hx']; simp only [List.append_assoc]; rfl) (by simp [be_len]) ho.mac0 ho.mac1
 have t5 : tkN xs 29 1 = 0 := tk_at (pre := be rd 8 ++ [.int .u8 e0, .int .u8 e1, .int .u8 e2, .int .u8 e3, .int .u8 e4, .int .u8 e5, .int .u8 e6, .int .u8 e7, .int .u8 e8, .int .u8 e9] ++ be tag 4 ++ be 48 1 ++ be mac 6) (by rw [hx']; simp only [List.append_assoc]; rfl) (by simp [be_len]) (by decide) (by decide)
 have t6 : tkN xs 30 3 = lab := tk_at (pre := be rd 8 ++ [.int .u8 e0, .int .u8 e1, .int .u8 e2, .int .u8 e3, .int .u8 e4, .int .u8 e5, .int .u8 e6, .int .u8 e7, .int .u8 e8, .int .u8 e9] ++ be tag 4 ++ be 48 1 ++ be mac 6 ++ be 0 1) (post := []) (by rw [hx']; simp only [List.append_assoc, List.append_nil]) (by simp [be_len]) ho.lab0 ho.lab1
 refine ⟨?_, ?_, ?_⟩
 · rw [hx, hl]
   unfold g2N g2n g2r hostN hostR ids
   simp (disch := omega) only [adv_RD, num_RD, sub_RD, Nat.reduceAdd, t0, t1, t2, t4, t5, t6, show ((0 : Int) == 32) = false from rfl, cond_false, show decide (left (RD 33 33) > 0) = false from rfl, cond_false]
   rw [w3_id (n := tag) ho.tag0 ho.tag1, w3_id (n := lab) ho.lab0 (Int.lt_trans ho.lab1 (by decide))]
   rfl
 · rw [hx, hl]; unfold g2R g2r hostR; simp (disch := omega) only [adv_RD, num_RD, Nat.reduceAdd, t5, show ((0 : Int) == 32) = false from rfl, cond_false, show decide (left (RD 33 33) > 0) = false from rfl, cond_false]; rfl
 · rw [hx, hl]; unfold g2R g2r hostR; simp (disch := omega) only [adv_RD, num_RD, Nat.reduceAdd, t5, show ((0 : Int) == 32) = false from rfl, cond_false, show decide (left (RD 33 33) > 0) = false from rfl, cond_false]; rfl
theorem reads2d {rd e0 e1 e2 e3 e4 e5 e6 e7 e8 e9 tag mac lab lab2 : Int} (ho : OkP ⟨2, rd, e0, e1, e2, e3, e4, e5, e6, e7, e8, e9, tag, mac, 0, false, 0, 0, 0, lab, lab2⟩) (h2 : (lab2 != 0) = true) : Reads g2N g2R val2 ⟨2, rd, e0, e1, e2, e3, e4, e5, e6, e7, e8, e9, tag, mac, 0, false, 0, 0, 0, lab, lab2⟩ := by
 have hx' : val2 ⟨2, rd, e0, e1, e2, e3, e4, e5, e6, e7, e8, e9, tag, mac, 0, false, 0, 0, 0, lab, lab2⟩ = be rd 8 ++ [.int .u8 e0, .int .u8 e1, .int .u8 e2, .int .u8 e3, .int .u8 e4, .int .u8 e5, .int .u8 e6, .int .u8 e7, .int .u8 e8, .int .u8 e9] ++ be tag 4 ++ be 48 1 ++ be mac 6 ++ be 0 1 ++ be lab 3 ++ be lab2 3 := by simp [val2, h2]
 have hl : (val2 ⟨2, rd, e0, e1, e2, e3, e4, e5, e6, e7, e8, e9, tag, mac, 0, false, 0, 0, 0, lab, lab2⟩).length = 36 := by rw [hx']; simp [be_len]
 generalize hx : val2 ⟨2, rd, e0, e1, e2, e3, e4, e5, e6, e7, e8, e9, tag, mac, 0, false, 0, 0, 0, lab, lab2⟩ = xs at hl hx'
 have t0 : tkN xs 0 8 = rd := tk_at (pre := []) (by rw [hx']; simp only [List.nil_append, List.append_assoc]; rfl) (by simp) ho.rd0 ho.rd1
 have t1 : (xs.drop 8).take 10 = [.int .u8 e0, .int .u8 e1, .int .u8 e2, .int .u8 e3, .int .u8 e4, .int .u8 e5, .int .u8 e6, .int .u8 e7, .int .u8 e8, .int .u8 e9] := by rw [hx']; rfl
 have t2 : tkN xs 18 4 = tag := tk_at (pre := be rd 8 ++ [.int .u8 e0, .int .u8 e1, .int .u8 e2, .int .u8 e3, .int .u8 e4, .int .u8 e5, .int .u8 e6, .int .u8 e7, .int .u8 e8, .int .u8 e9]) (by rw [hx']; simp only [List.append_assoc]; rfl) (by simp [be_len]) ho.tag0 ho.tag1
 have t3 : tkN xs 22 1 = 48 := tk_at (pre := be rd 8 ++ [.int .u8 e0, .int .u8 e1, .int .u8 e2, .int .u8 e3, .int .u8 e4, .int .u8 e5, .int .u8 e6, .int .u8 e7, .int .u8 e8, .int .u8 e9] ++ be tag 4) (by rw [hx']; simp only [List.append_assoc]; rfl) (by simp [be_len]) (by decide) (by decide)
 have t4 : tkN xs 23 6 = mac := tk_at (pre := be rd 8 ++ [.int .u8 e0, .int .u8 e1, .int .u8 e2, .int .u8 e3, .int .u8 e4, .int .u8 e5, .int .u8 e6, .int .u8 e7, .int .u8 e8, .int .u8 e9] ++ be tag 4 ++ be 48 1) (by rw [hx']; simp only [List.append_assoc]; rfl) (by simp [be_len]) ho.mac0 ho.mac1
 have t5 : tkN xs 29 1 = 0 := tk_at (pre := be rd 8 ++ [.int .u8 e0, .int .u8 e1, .int .u8 e2, .int .u8 e3, .int .u8 e4, .int .u8 e5, .int .u8 e6, .int .u8 e7, .int .u8 e8, .int .u8 e9] ++ be tag 4 ++ be 48 1 ++ be mac 6) (by rw [hx']; simp only [List.append_assoc]; rfl) (by simp [be_len]) (by decide) (by decide)
 have t6 : tkN xs 30 3 = lab := tk_at (pre := be rd 8 ++ [.int .u8 e0, .int .u8 e1, .int .u8 e2, .int .u8 e3, .int .u8 e4, .int .u8 e5, .int .u8 e6, .int .u8 e7, .int .u8 e8, .int .u8 e9] ++ be tag 4 ++ be 48 1 ++ be mac 6 ++ be 0 1) (by rw [hx']; simp only [List.append_assoc]; rfl) (by simp [be_len]) ho.lab0 ho.lab1
 have t7 : tkN xs 33 3 = lab2 := tk_at (pre := be rd 8 ++ [.int .u8 e0, .int .u8 e1, .int .u8 e2, .int .u8 e3, .int .u8 e4, .int .u8 e5, .int .u8 e6, .int .u8 e7, .int .u8 e8, .int .u8 e9] ++ be tag 4 ++ be 48 1 ++ be mac 6 ++ be 0 1 ++ be lab 3) (post := []) (by rw [hx']; simp only [List.append_assoc, List.append_nil]) (by simp [be_len]) ho.lac0 ho.lac1
 refine ⟨?_, ?_, ?_⟩
 · rw [hx, hl]
   unfold g2N g2n g2r hostN hostR ids
   simp (disch := omega) only [adv_RD, num_RD, sub_RD, Nat.reduceAdd, t0, t1, t2, t4, t5, t6, t7, show ((0 : Int) == 32) = false from rfl, cond_false, show decide (left (RD 33 36) > 0) = true from rfl, cond_true, cond_false]
   rw [w3_id (n := tag) ho.tag0 ho.tag1, w3_id (n := lab) ho.lab0 (Int.lt_trans ho.lab1 (by decide)), w3_id (n := lab2) ho.lac0 (Int.lt_trans ho.lac1 (by decide))]
   rfl
 · rw [hx, hl]; unfold g2R g2r hostR; simp (disch := omega) only [adv_RD, num_RD, Nat.reduceAdd, t5, show ((0 : Int) == 32) = false from rfl, cond_false, show decide (left (RD 33 36) > 0) = true from rfl, cond_true, cond_false]; rfl
 · rw [hx, hl]; unfold g2R g2r hostR; simp (disch := omega) only [adv_RD, num_RD, Nat.reduceAdd, t5, show ((0 : Int) == 32) = false from rfl, cond_false, show decide (left (RD 33 36) > 0) = true from rfl, cond_true, cond_false]; rfl
end Go.Proofs.YtnlmhpancboddaaGreat
