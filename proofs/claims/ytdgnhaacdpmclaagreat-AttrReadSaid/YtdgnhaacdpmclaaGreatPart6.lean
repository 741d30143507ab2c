/- The reference's route of a value: what has been written is read. -/
import Derived.Test.YtdgnhaacdpmclaaGreatPart5
namespace Go.Proofs.YtdgnhaacdpmclaaGreat
open Go.Am
set_option maxRecDepth 100000
def aB (p : List SV) : Nat := if 18 ≤ p.length then 18 else 8
def idN (p : List SV) (n : Nl) : Nl := if 18 ≤ p.length then ids ((p.drop 8).take 10) n else n
def VN1 (p : List SV) : Nl := V1 p (aB p) (idN p (rd1 p 1))
def VN2 (p : List SV) : Nl := bif tkP p (aB p + 11) 1 == 32 then V2a p (aB p) (idN p (rd1 p 2)) else V2b p (aB p) (idN p (rd1 p 2))
def VN3 (p : List SV) : Nl := V3 p (rd1 p 3)
def VN4 (p : List SV) : Nl := V4 p (aB p) (idN p (rd1 p 4))
def VN5 (p : List SV) : Nl := V5 p (aB p) (idN p (rd1 p 5))
def valN (k : Int) : List SV → Nl := bif k == 1 then VN1 else bif k == 2 then VN2 else bif k == 3 then VN3 else bif k == 4 then VN4 else VN5
theorem vals1 {rd e0 e1 e2 e3 e4 e5 e6 e7 e8 e9 tag lab : Int} (ho : OkP ⟨1, rd, e0, e1, e2, e3, e4, e5, e6, e7, e8, e9, tag, 0, 0, false, 0, 0, 0, lab, 0⟩) : VN1 (val1 ⟨1, rd, e0, e1, e2, e3, e4, e5, e6, e7, e8, e9, tag, 0, 0, false, 0, 0, 0, lab, 0⟩) = ⟨1, rd, e0, e1, e2, e3, e4, e5, e6, e7, e8, e9, tag, 0, 0, false, 0, 0, 0, lab, 0⟩ := by
 have hx' : val1 ⟨1, rd, e0, e1, e2, e3, e4, e5, e6, e7, e8, e9, tag, 0, 0, false, 0, 0, 0, lab, 0⟩ = be rd 8 ++ [.int .u8 e0, .int .u8 e1, .int .u8 e2, .int .u8 e3, .int .u8 e4, .int .u8 e5, .int .u8 e6, .int .u8 e7, .int .u8 e8, .int .u8 e9] ++ be tag 4 ++ be lab 3 := by simp [val1]
 have hl : (val1 ⟨1, rd, e0, e1, e2, e3, e4, e5, e6, e7, e8, e9, tag, 0, 0, false, 0, 0, 0, lab, 0⟩).length = 25 := by rw [hx']; simp [be_len]
 generalize hx : val1 ⟨1, rd, e0, e1, e2, e3, e4, e5, e6, e7, e8, e9, tag, 0, 0, false, 0, 0, 0, lab, 0⟩ = xs at hl hx'
 have t0 : tkN xs 0 8 = rd := tk_at (pre := []) (by rw [hx']; simp only [List.nil_append, List.append_assoc, List.append_nil]; rfl) (by simp [be_len]) ho.rd0 ho.rd1
 have u0 : tkP xs 0 8 = rd := by unfold tkP; rw [if_pos (by omega), t0]
 have t1 : (xs.drop 8).take 10 = [.int .u8 e0, .int .u8 e1, .int .u8 e2, .int .u8 e3, .int .u8 e4, .int .u8 e5, .int .u8 e6, .int .u8 e7, .int .u8 e8, .int .u8 e9] := by rw [hx']; rfl
 have t2 : tkN xs 18 4 = tag := tk_at (pre := be rd 8 ++ [.int .u8 e0, .int .u8 e1, .int .u8 e2, .int .u8 e3, .int .u8 e4, .int .u8 e5, .int .u8 e6, .int .u8 e7, .int .u8 e8, .int .u8 e9]) (by rw [hx']; simp only [List.nil_append, List.append_assoc, List.append_nil]; rfl) (by simp [be_len]) ho.tag0 ho.tag1
 have u2 : tkP xs 18 4 = tag := by unfold tkP; rw [if_pos (by omega), t2]
 have t3 : tkN xs 22 3 = lab := tk_at (pre := be rd 8 ++ [.int .u8 e0, .int .u8 e1, .int .u8 e2, .int .u8 e3, .int .u8 e4, .int .u8 e5, .int .u8 e6, .int .u8 e7, .int .u8 e8, .int .u8 e9] ++ be tag 4) (post := []) (by rw [hx']; simp only [List.nil_append, List.append_assoc, List.append_nil]) (by simp [be_len]) ho.lab0 ho.lab1
 have u3 : tkP xs 22 3 = lab := by unfold tkP; rw [if_pos (by omega), t3]
 unfold VN1 V1
 rw [show aB xs = 18 from if_pos (by omega), show idN xs (rd1 xs 1) = ids ((xs.drop 8).take 10) (rd1 xs 1) from if_pos (by omega)]
 unfold ids rd1
 simp only [Nat.reduceAdd, u0, t1, u2, u3]
 rw [w3_id (n := tag) ho.tag0 ho.tag1, w3_id (n := lab) ho.lab0 (Int.lt_trans ho.lab1 (by decide))]
 rfl
theorem vals5 {rd e0 e1 e2 e3 e4 e5 e6 e7 e8 e9 tag pip plen gw lab : Int} (ho : OkP ⟨5, rd, e0, e1, e2, e3, e4, e5, e6, e7, e8, e9, tag, 0, 0, false, pip, plen, gw, lab, 0⟩) : VN5 (val5 ⟨5, rd, e0, e1, e2, e3, e4, e5, e6, e7, e8, e9, tag, 0, 0, false, pip, plen, gw, lab, 0⟩) = ⟨5, rd, e0, e1, e2, e3, e4, e5, e6, e7, e8, e9, tag, 0, 0, false, pip, plen, gw, lab, 0⟩ := by
 have hx' : val5 ⟨5, rd, e0, e1, e2, e3, e4, e5, e6, e7, e8, e9, tag, 0, 0, false, pip, plen, gw, lab, 0⟩ = be rd 8 ++ [.int .u8 e0, .int .u8 e1, .int .u8 e2, .int .u8 e3, .int .u8 e4, .int .u8 e5, .int .u8 e6, .int .u8 e7, .int .u8 e8, .int .u8 e9] ++ be tag 4 ++ be plen 1 ++ be pip 4 ++ be gw 4 ++ be lab 3 := by simp [val5]
 have hl : (val5 ⟨5, rd, e0, e1, e2, e3, e4, e5, e6, e7, e8, e9, tag, 0, 0, false, pip, plen, gw, lab, 0⟩).length = 34 := by rw [hx']; simp [be_len]
 generalize hx : val5 ⟨5, rd, e0, e1, e2, e3, e4, e5, e6, e7, e8, e9, tag, 0, 0, false, pip, plen, gw, lab, 0⟩ = xs at hl hx'
 have t0 : tkN xs 0 8 = rd := tk_at (pre := []) (by rw [hx']; simp only [List.nil_append, List.append_assoc, List.append_nil]; rfl) (by simp [be_len]) ho.rd0 ho.rd1
 have u0 : tkP xs 0 8 = rd := by unfold tkP; rw [if_pos (by omega), t0]
 have t1 : (xs.drop 8).take 10 = [.int .u8 e0, .int .u8 e1, .int .u8 e2, .int .u8 e3, .int .u8 e4, .int .u8 e5, .int .u8 e6, .int .u8 e7, .int .u8 e8, .int .u8 e9] := by rw [hx']; rfl
 have t2 : tkN xs 18 4 = tag := tk_at (pre := be rd 8 ++ [.int .u8 e0, .int .u8 e1, .int .u8 e2, .int .u8 e3, .int .u8 e4, .int .u8 e5, .int .u8 e6, .int .u8 e7, .int .u8 e8, .int .u8 e9]) (by rw [hx']; simp only [List.nil_append, List.append_assoc, List.append_nil]; rfl) (by simp [be_len]) ho.tag0 ho.tag1
 have u2 : tkP xs 18 4 = tag := by unfold tkP; rw [if_pos (by omega), t2]
 have t3 : tkN xs 22 1 = plen := tk_at (pre := be rd 8 ++ [.int .u8 e0, .int .u8 e1, .int .u8 e2, .int .u8 e3, .int .u8 e4, .int .u8 e5, .int .u8 e6, .int .u8 e7, .int .u8 e8, .int .u8 e9] ++ be tag 4) (by rw [hx']; simp only [List.nil_append, List.append_assoc, List.append_nil]; rfl) (by simp [be_len]) ho.pl0 ho.pl1
 have u3 : tkP xs 22 1 = plen := by unfold tkP; rw [if_pos (by omega), t3]
 have t4 : tkN xs 23 4 = pip := tk_at (pre := be rd 8 ++ [.int .u8 e0, .int .u8 e1, .int .u8 e2, .int .u8 e3, .int .u8 e4, .int .u8 e5, .int .u8 e6, .int .u8 e7, .int .u8 e8, .int .u8 e9] ++ be tag 4 ++ be plen 1) (by rw [hx']; simp only [List.nil_append, List.append_assoc, List.append_nil]; rfl) (by simp [be_len]) ho.pip0 ho.pip1
 have u4 : tkP xs 23 4 = pip := by unfold tkP; rw [if_pos (by omega), t4]
 have t5 : tkN xs 27 4 = gw := tk_at (pre := be rd 8 ++ [.int .u8 e0, .int .u8 e1, .int .u8 e2, .int .u8 e3, .int .u8 e4, .int .u8 e5, .int .u8 e6, .int .u8 e7, .int .u8 e8, .int .u8 e9] ++ be tag 4 ++ be plen 1 ++ be pip 4) (by rw [hx']; simp only [List.nil_append, List.append_assoc, List.append_nil]; rfl) (by simp [be_len]) ho.gw0 ho.gw1
 have u5 : tkP xs 27 4 = gw := by unfold tkP; rw [if_pos (by omega), t5]
 have t6 : tkN xs 31 3 = lab := tk_at (pre := be rd 8 ++ [.int .u8 e0, .int .u8 e1, .int .u8 e2, .int .u8 e3, .int .u8 e4, .int .u8 e5, .int .u8 e6, .int .u8 e7, .int .u8 e8, .int .u8 e9] ++ be tag 4 ++ be plen 1 ++ be pip 4 ++ be gw 4) (post := []) (by rw [hx']; simp only [List.nil_append, List.append_assoc, List.append_nil]) (by simp [be_len]) ho.lab0 ho.lab1
 have u6 : tkP xs 31 3 = lab := by unfold tkP; rw [if_pos (by omega), t6]
 unfold VN5 V5
 rw [show aB xs = 18 from if_pos (by omega), show idN xs (rd1 xs 5) = ids ((xs.drop 8).take 10) (rd1 xs 5) from if_pos (by omega)]
 unfold ids rd1
 simp only [Nat.reduceAdd, u0, t1, u2, u3, u4, u5, u6]
 rw [w3_id (n := tag) ho.tag0 ho.tag1, w3_id (n := pip) ho.pip0 ho.pip1, w3_id (n := gw) ho.gw0 ho.gw1, w3_id (n := lab) ho.lab0 (Int.lt_trans ho.lab1 (by decide)), w64_id (n := plen) (by have := ho.pl0; simp only at this; omega) (by have := ho.pl1; simp only at this; omega)]
 rfl
theorem vals3 {rd tag ip : Int} (ho : OkP ⟨3, rd, 0, 0, 0, 0, 0, 0, 0, 0, 0, 0, tag, 0, ip, true, 0, 0, 0, 0, 0⟩) : VN3 (val3 ⟨3, rd, 0, 0, 0, 0, 0, 0, 0, 0, 0, 0, tag, 0, ip, true, 0, 0, 0, 0, 0⟩) = ⟨3, rd, 0, 0, 0, 0, 0, 0, 0, 0, 0, 0, tag, 0, ip, true, 0, 0, 0, 0, 0⟩ := by
 have hx' : val3 ⟨3, rd, 0, 0, 0, 0, 0, 0, 0, 0, 0, 0, tag, 0, ip, true, 0, 0, 0, 0, 0⟩ = be rd 8 ++ be tag 4 ++ be 32 1 ++ be ip 4 := by simp [val3]
 have hl : (val3 ⟨3, rd, 0, 0, 0, 0, 0, 0, 0, 0, 0, 0, tag, 0, ip, true, 0, 0, 0, 0, 0⟩).length = 17 := by rw [hx']; simp [be_len]
 generalize hx : val3 ⟨3, rd, 0, 0, 0, 0, 0, 0, 0, 0, 0, 0, tag, 0, ip, true, 0, 0, 0, 0, 0⟩ = xs at hl hx'
 have t0 : tkN xs 0 8 = rd := tk_at (pre := []) (by rw [hx']; simp only [List.nil_append, List.append_assoc, List.append_nil]; rfl) (by simp [be_len]) ho.rd0 ho.rd1
 have u0 : tkP xs 0 8 = rd := by unfold tkP; rw [if_pos (by omega), t0]
 have t1 : tkN xs 8 4 = tag := tk_at (pre := be rd 8) (by rw [hx']; simp only [List.nil_append, List.append_assoc, List.append_nil]; rfl) (by simp [be_len]) ho.tag0 ho.tag1
 have u1 : tkP xs 8 4 = tag := by unfold tkP; rw [if_pos (by omega), t1]
 have t2 : tkN xs 12 1 = 32 := tk_at (pre := be rd 8 ++ be tag 4) (by rw [hx']; simp only [List.nil_append, List.append_assoc, List.append_nil]; rfl) (by simp [be_len]) (by decide) (by decide)
 have u2 : tkP xs 12 1 = 32 := by unfold tkP; rw [if_pos (by omega), t2]
 have t3 : tkN xs 13 4 = ip := tk_at (pre := be rd 8 ++ be tag 4 ++ be 32 1) (post := []) (by rw [hx']; simp only [List.nil_append, List.append_assoc, List.append_nil]) (by simp [be_len]) ho.ip0 ho.ip1
 have u3 : tkP xs 13 4 = ip := by unfold tkP; rw [if_pos (by omega), t3]
 unfold VN3 V3
 unfold rd1
 simp only [Nat.reduceAdd, u0, u1, u2, u3, beq_self_eq_true, cond_true]
 rw [w3_id (n := tag) ho.tag0 ho.tag1, w3_id (n := ip) ho.ip0 ho.ip1]
 rfl
theorem vals4 {rd e0 e1 e2 e3 e4 e5 e6 e7 e8 e9 ip : Int} (ho : OkP ⟨4, rd, e0, e1, e2, e3, e4, e5, e6, e7, e8, e9, 0, 0, ip, true, 0, 0, 0, 0, 0⟩) : VN4 (val4 ⟨4, rd, e0, e1, e2, e3, e4, e5, e6, e7, e8, e9, 0, 0, ip, true, 0, 0, 0, 0, 0⟩) = ⟨4, rd, e0, e1, e2, e3, e4, e5, e6, e7, e8, e9, 0, 0, ip, true, 0, 0, 0, 0, 0⟩ := by
 have hx' : val4 ⟨4, rd, e0, e1, e2, e3, e4, e5, e6, e7, e8, e9, 0, 0, ip, true, 0, 0, 0, 0, 0⟩ = be rd 8 ++ [.int .u8 e0, .int .u8 e1, .int .u8 e2, .int .u8 e3, .int .u8 e4, .int .u8 e5, .int .u8 e6, .int .u8 e7, .int .u8 e8, .int .u8 e9] ++ be 32 1 ++ be ip 4 := by simp [val4]
 have hl : (val4 ⟨4, rd, e0, e1, e2, e3, e4, e5, e6, e7, e8, e9, 0, 0, ip, true, 0, 0, 0, 0, 0⟩).length = 23 := by rw [hx']; simp [be_len]
 generalize hx : val4 ⟨4, rd, e0, e1, e2, e3, e4, e5, e6, e7, e8, e9, 0, 0, ip, true, 0, 0, 0, 0, 0⟩ = xs at hl hx'
 have t0 : tkN xs 0 8 = rd := tk_at (pre := []) (by rw [hx']; simp only [List.nil_append, List.append_assoc, List.append_nil]; rfl) (by simp [be_len]) ho.rd0 ho.rd1
 have u0 : tkP xs 0 8 = rd := by unfold tkP; rw [if_pos (by omega), t0]
 have t1 : (xs.drop 8).take 10 = [.int .u8 e0, .int .u8 e1, .int .u8 e2, .int .u8 e3, .int .u8 e4, .int .u8 e5, .int .u8 e6, .int .u8 e7, .int .u8 e8, .int .u8 e9] := by rw [hx']; rfl
 have t2 : tkN xs 18 1 = 32 := tk_at (pre := be rd 8 ++ [.int .u8 e0, .int .u8 e1, .int .u8 e2, .int .u8 e3, .int .u8 e4, .int .u8 e5, .int .u8 e6, .int .u8 e7, .int .u8 e8, .int .u8 e9]) (by rw [hx']; simp only [List.nil_append, List.append_assoc, List.append_nil]; rfl) (by simp [be_len]) (by decide) (by decide)
 have u2 : tkP xs 18 1 = 32 := by unfold tkP; rw [if_pos (by omega), t2]
 have t3 : tkN xs 19 4 = ip := tk_at (pre := be rd 8 ++ [.int .u8 e0, .int .u8 e1, .int .u8 e2, .int .u8 e3, .int .u8 e4, .int .u8 e5, .int .u8 e6, .int .u8 e7, .int .u8 e8, .int .u8 e9] ++ be 32 1) (post := []) (by rw [hx']; simp only [List.nil_append, List.append_assoc, List.append_nil]) (by simp [be_len]) ho.ip0 ho.ip1
 have u3 : tkP xs 19 4 = ip := by unfold tkP; rw [if_pos (by omega), t3]
 unfold VN4 V4
 rw [show aB xs = 18 from if_pos (by omega), show idN xs (rd1 xs 4) = ids ((xs.drop 8).take 10) (rd1 xs 4) from if_pos (by omega)]
 unfold ids rd1
 simp only [Nat.reduceAdd, u0, t1, u2, u3, beq_self_eq_true, cond_true]
 rw [w3_id (n := ip) ho.ip0 ho.ip1]
 rfl
theorem vals2a {rd e0 e1 e2 e3 e4 e5 e6 e7 e8 e9 tag mac ip lab : Int} (ho : OkP ⟨2, rd, e0, e1, e2, e3, e4, e5, e6, e7, e8, e9, tag, mac, ip, true, 0, 0, 0, lab, 0⟩) : VN2 (val2 ⟨2, rd, e0, e1, e2, e3, e4, e5, e6, e7, e8, e9, tag, mac, ip, true, 0, 0, 0, lab, 0⟩) = ⟨2, rd, e0, e1, e2, e3, e4, e5, e6, e7, e8, e9, tag, mac, ip, true, 0, 0, 0, lab, 0⟩ := by
 have hx' : val2 ⟨2, rd, e0, e1, e2, e3, e4, e5, e6, e7, e8, e9, tag, mac, ip, true, 0, 0, 0, lab, 0⟩ = be rd 8 ++ [.int .u8 e0, .int .u8 e1, .int .u8 e2, .int .u8 e3, .int .u8 e4, .int .u8 e5, .int .u8 e6, .int .u8 e7, .int .u8 e8, .int .u8 e9] ++ be tag 4 ++ be 48 1 ++ be mac 6 ++ be 32 1 ++ be ip 4 ++ be lab 3 := by simp [val2]
 have hl : (val2 ⟨2, rd, e0, e1, e2, e3, e4, e5, e6, e7, e8, e9, tag, mac, ip, true, 0, 0, 0, lab, 0⟩).length = 37 := by rw [hx']; simp [be_len]
 generalize hx : val2 ⟨2, rd, e0, e1, e2, e3, e4, e5, e6, e7, e8, e9, tag, mac, ip, true, 0, 0, 0, lab, 0⟩ = xs at hl hx'
 have t0 : tkN xs 0 8 = rd := tk_at (pre := []) (by rw [hx']; simp only [List.nil_append, List.append_assoc, List.append_nil]; rfl) (by simp [be_len]) ho.rd0 ho.rd1
 have u0 : tkP xs 0 8 = rd := by unfold tkP; rw [if_pos (by omega), t0]
 have t1 : (xs.drop 8).take 10 = [.int .u8 e0, .int .u8 e1, .int .u8 e2, .int .u8 e3, .int .u8 e4, .int .u8 e5, .int .u8 e6, .int .u8 e7, .int .u8 e8, .int .u8 e9] := by rw [hx']; rfl
 have t2 : tkN xs 18 4 = tag := tk_at (pre := be rd 8 ++ [.int .u8 e0, .int .u8 e1, .int .u8 e2, .int .u8 e3, .int .u8 e4, .int .u8 e5, .int .u8 e6, .int .u8 e7, .int .u8 e8, .int .u8 e9]) (by rw [hx']; simp only [List.nil_append, List.append_assoc, List.append_nil]; rfl) (by simp [be_len]) ho.tag0 ho.tag1
 have u2 : tkP xs 18 4 = tag := by unfold tkP; rw [if_pos (by omega), t2]
 have t3 : tkN xs 22 1 = 48 := tk_at (pre := be rd 8 ++ [.int .u8 e0, .int .u8 e1, .int .u8 e2, .int .u8 e3, .int .u8 e4, .int .u8 e5, .int .u8 e6, .int .u8 e7, .int .u8 e8, .int .u8 e9] ++ be tag 4) (by rw [hx']; simp only [List.nil_append, List.append_assoc, List.append_nil]; rfl) (by simp [be_len]) (by decide) (by decide)
 have u3 : tkP xs 22 1 = 48 := by unfold tkP; rw [if_pos (by omega), t3]
 have t4 : tkN xs 23 6 = mac := tk_at (pre := be rd 8 ++ [.int .u8 e0, .int .u8 e1, .int .u8 e2, .int .u8 e3, .int .u8 e4, .int .u8 e5, .int .u8 e6, .int .u8 e7, .int .u8 e8, .int .u8 e9] ++ be tag 4 ++ be 48 1) (by rw [hx']; simp only [List.nil_append, List.append_assoc, List.append_nil]; rfl) (by simp [be_len]) ho.mac0 ho.mac1
 have u4 : tkP xs 23 6 = mac := by unfold tkP; rw [if_pos (by omega), t4]
 have t5 : tkN xs 29 1 = 32 := tk_at (pre := be rd 8 ++ [.int .u8 e0, .int .u8 e1, .int .u8 e2, .int .u8 e3, .int .u8 e4, .int .u8 e5, .int .u8 e6, .int .u8 e7, .int .u8 e8, .int .u8 e9] ++ be tag 4 ++ be 48 1 ++ be mac 6) (by rw [hx']; simp only [List.nil_append, List.append_assoc, List.append_nil]; rfl) (by simp [be_len]) (by decide) (by decide)
 have u5 : tkP xs 29 1 = 32 := by unfold tkP; rw [if_pos (by omega), t5]
 have t6 : tkN xs 30 4 = ip := tk_at (pre := be rd 8 ++ [.int .u8 e0, .int .u8 e1, .int .u8 e2, .int .u8 e3, .int .u8 e4, .int .u8 e5, .int .u8 e6, .int .u8 e7, .int .u8 e8, .int .u8 e9] ++ be tag 4 ++ be 48 1 ++ be mac 6 ++ be 32 1) (by rw [hx']; simp only [List.nil_append, List.append_assoc, List.append_nil]; rfl) (by simp [be_len]) ho.ip0 ho.ip1
 have u6 : tkP xs 30 4 = ip := by unfold tkP; rw [if_pos (by omega), t6]
 have t7 : tkN xs 34 3 = lab := tk_at (pre := be rd 8 ++ [.int .u8 e0, .int .u8 e1, .int .u8 e2, .int .u8 e3, .int .u8 e4, .int .u8 e5, .int .u8 e6, .int .u8 e7, .int .u8 e8, .int .u8 e9] ++ be tag 4 ++ be 48 1 ++ be mac 6 ++ be 32 1 ++ be ip 4) (post := []) (by rw [hx']; simp only [List.nil_append, List.append_assoc, List.append_nil]) (by simp [be_len]) ho.lab0 ho.lab1
 have u7 : tkP xs 34 3 = lab := by unfold tkP; rw [if_pos (by omega), t7]
 have ux : tkP xs 37 3 = 0 := by unfold tkP; rw [if_neg (by omega)]
 unfold VN2 V2a V2b
 rw [show aB xs = 18 from if_pos (by omega), show idN xs (rd1 xs 2) = ids ((xs.drop 8).take 10) (rd1 xs 2) from if_pos (by omega)]
 unfold ids rd1
 simp only [Nat.reduceAdd, u0, t1, u2, u3, u4, u5, u6, u7, ux, beq_self_eq_true, cond_true]
 rw [w3_id (n := tag) ho.tag0 ho.tag1, w3_id (n := ip) ho.ip0 ho.ip1, w3_id (n := lab) ho.lab0 (Int.lt_trans ho.lab1 (by decide))]
 rfl
theorem vals2b {rd e0 e1 e2 e3 e4 e5 e6 e7 e8 e9 tag mac ip lab lab2 : Int} (ho : OkP ⟨2, rd, e0, e1, e2, e3, e4, e5, e6, e7, e8, e9, tag, mac, ip, true, 0, 0, 0, lab, lab2⟩) (h2 : (lab2 != 0) = true) : VN2 (val2 ⟨2, rd, e0, e1, e2, e3, e4, e5, e6, e7, e8, e9, tag, mac, ip, true, 0, 0, 0, lab, lab2⟩) = ⟨2, rd, e0, e1, e2, e3, e4, e5, e6, e7, e8, e9, tag, mac, ip, true, 0, 0, 0, lab, lab2⟩ := by
 have hx' : val2 ⟨2, rd, e0, e1, e2, e3, e4, e5, e6, e7, e8, e9, tag, mac, ip, true, 0, 0, 0, lab, lab2⟩ = be rd 8 ++ [.int .u8 e0, .int .u8 e1, .int .u8 e2, .int .u8 e3, .int .u8 e4, .int .u8 e5, .int .u8 e6, .int .u8 e7, .int .u8 e8, .int .u8 e9] ++ be tag 4 ++ be 48 1 ++ be mac 6 ++ be 32 1 ++ be ip 4 ++ be lab 3 ++ be lab2 3 := by simp [val2, h2]
 have hl : (val2 ⟨2, rd, e0, e1, e2, e3, e4, e5, e6, e7, e8, e9, tag, mac, ip, true, 0, 0, 0, lab, lab2⟩).length = 40 := by rw [hx']; simp [be_len]
 generalize hx : val2 ⟨2, rd, e0, e1, e2, e3, e4, e5, e6, e7, e8, e9, tag, mac, ip, true, 0, 0, 0, lab, lab2⟩ = xs at hl hx'
 have t0 : tkN xs 0 8 = rd := tk_at (pre := []) (by rw [hx']; simp only [List.nil_append, List.append_assoc, List.append_nil]; rfl) (by simp [be_len]) ho.rd0 ho.rd1
 have u0 : tkP xs 0 8 = rd := by unfold tkP; rw [if_pos (by omega), t0]
 have t1 : (xs.drop 8).take 10 = [.int .u8 e0, .int .u8 e1, .int .u8 e2, .int .u8 e3, .int .u8 e4, .int .u8 e5, .int .u8 e6, .int .u8 e7, .int .u8 e8, .int .u8 e9] := by rw [hx']; rfl
 have t2 : tkN xs 18 4 = tag := tk_at (pre := be rd 8 ++ [.int .u8 e0, .int .u8 e1, .int .u8 e2, .int .u8 e3, .int .u8 e4, .int .u8 e5, .int .u8 e6, .int .u8 e7, .int .u8 e8, .int .u8 e9]) (by rw [hx']; simp only [List.nil_append, List.append_assoc, List.append_nil]; rfl) (by simp [be_len]) ho.tag0 ho.tag1
 have u2 : tkP xs 18 4 = tag := by unfold tkP; rw [if_pos (by omega), t2]
 have t3 : tkN xs 22 1 = 48 := tk_at (pre := be rd 8 ++ [.int .u8 e0, .int .u8 e1, .int .u8 e2, .int .u8 e3, .int .u8 e4, .int .u8 e5, .int .u8 e6, .int .u8 e7, .int .u8 e8, .int .u8 e9] ++ be tag 4) (by rw [hx']; simp only [List.nil_append, List.append_assoc, List.append_nil]; rfl) (by simp [be_len]) (by decide) (by decide)
 have u3 : tkP xs 22 1 = 48 := by unfold tkP; rw [if_pos (by omega), t3]
 have t4 : tkN xs 23 6 = mac := tk_at (pre := be rd 8 ++ [.int .u8 e0, .int .u8 e1, .int .u8 e2, .int .u8 e3, .int .u8 e4, .int .u8 e5, .int .u8 e6, .int .u8 e7, .int .u8 e8, .int .u8 e9] ++ be tag 4 ++ be 48 1) (by rw [hx']; simp only [List.nil_append, List.append_assoc, List.append_nil]; rfl) (by simp [be_len]) ho.mac0 ho.mac1
 have u4 : tkP xs 23 6 = mac := by unfold tkP; rw [if_pos (by omega), t4]
 have t5 : tkN xs 29 1 = 32 := tk_at (pre := be rd 8 ++ [.int .u8 e0, .int .u8 e1, .int .u8 e2, .int .u8 e3, .int .u8 e4, .int .u8 e5, .int .u8 e6, .int .u8 e7, .int .u8 e8, .int .u8 e9] ++ be tag 4 ++ be 48 1 ++ be mac 6) (by rw [hx']; simp only [List.nil_append, List.append_assoc, List.append_nil]; rfl) (by simp [be_len]) (by decide) (by decide)
 have u5 : tkP xs 29 1 = 32 := by unfold tkP; rw [if_pos (by omega), t5]
 have t6 : tkN xs 30 4 = ip := tk_at (pre := be rd 8 ++ [.int .u8 e0, .int .u8 e1, .int .u8 e2, .int .u8 e3, .int .u8 e4, .int .u8 e5, .int .u8 e6, .int .u8 e7, .int .u8 e8, .int .u8 e9] ++ be tag 4 ++ be 48 1 ++ be mac 6 ++ be 32 1) (by rw [hx']; simp only [List.nil_append, List.append_assoc, List.append_nil]; rfl) (by simp [be_len]) ho.ip0 ho.ip1
 have u6 : tkP xs 30 4 = ip := by unfold tkP; rw [if_pos (by omega), t6]
 have t7 : tkN xs 34 3 = lab := tk_at (pre := be rd 8 ++ [.int .u8 e0, .int .u8 e1, .int .u8 e2, .int .u8 e3, .int .u8 e4, .int .u8 e5, .int .u8 e6, .int .u8 e7, .int .u8 e8, .int .u8 e9] ++ be tag 4 ++ be 48 1 ++ be mac 6 ++ be 32 1 ++ be ip 4) (by rw [hx']; simp only [List.nil_append, List.append_assoc, List.append_nil]; rfl) (by simp [be_len]) ho.lab0 ho.lab1
 have u7 : tkP xs 34 3 = lab := by unfold tkP; rw [if_pos (by omega), t7]
 have t8 : tkN xs 37 3 = lab2 := tk_at (pre := be rd 8 ++ [.int .u8 e0, .int .u8 e1, .int .u8 e2, .int .u8 e3, .int .u8 e4, .int .u8 e5, .int .u8 e6, .int .u8 e7, .int .u8 e8, .int .u8 e9] ++ be tag 4 ++ be 48 1 ++ be mac 6 ++ be 32 1 ++ be ip 4 ++ be lab 3) (post := []) (by rw [hx']; simp only [List.nil_append, List.append_assoc, List.append_nil]) (by simp [be_len]) ho.lac0 ho.lac1
 have u8 : tkP xs 37 3 = lab2 := by unfold tkP; rw [if_pos (by omega), t8]
 unfold VN2 V2a V2b
 rw [show aB xs = 18 from if_pos (by omega), show idN xs (rd1 xs 2) = ids ((xs.drop 8).take 10) (rd1 xs 2) from if_pos (by omega)]
 unfold ids rd1
 simp only [Nat.reduceAdd, u0, t1, u2, u3, u4, u5, u6, u7, u8, beq_self_eq_true, cond_true]
 rw [w3_id (n := tag) ho.tag0 ho.tag1, w3_id (n := ip) ho.ip0 ho.ip1, w3_id (n := lab) ho.lab0 (Int.lt_trans ho.lab1 (by decide)), w3_id (n := lab2) ho.lac0 (Int.lt_trans ho.lac1 (by decide))]
 rfl
theorem vals2c {rd e0 e1 e2 e3 e4 e5 e6 e7 e8 e9 tag mac lab : Int} (ho : OkP ⟨2, rd, e0, e1, e2, e3, e4, e5, e6, e7, e8, e9, tag, mac, 0, false, 0, 0, 0, lab, 0⟩) : VN2 (val2 ⟨2, rd, e0, e1, e2, e3, e4, e5, e6, e7, e8, e9, tag, mac, 0, false, 0, 0, 0, lab, 0⟩) = ⟨2, rd, e0, e1, e2, e3, e4, e5, e6, e7, e8, e9, tag, mac, 0, false, 0, 0, 0, lab, 0⟩ := by
 have hx' : val2 ⟨2, rd, e0, e1, e2, e3, e4, e5, e6, e7, e8, e9, tag, mac, 0, false, 0, 0, 0, lab, 0⟩ = be rd 8 ++ [.int .u8 e0, .int .u8 e1, .int .u8 e2, .int .u8 e3, .int .u8 e4, .int .u8 e5, .int .u8 e6, .int .u8 e7, .int .u8 e8, .int .u8 e9] ++ be tag 4 ++ be 48 1 ++ be mac 6 ++ be 0 1 ++ be lab 3 := by simp [val2]
 have hl : (val2 ⟨2, rd, e0, e1, e2, e3, e4, e5, e6, e7, e8, e9, tag, mac, 0, false, 0, 0, 0, lab, 0⟩).length = 33 := by rw [hx']; simp [be_len]
 generalize hx : val2 ⟨2, rd, e0, e1, e2, e3, e4, e5, e6, e7, e8, e9, tag, mac, 0, false, 0, 0, 0, lab, 0⟩ = xs at hl hx'
 have t0 : tkN xs 0 8 = rd := tk_at (pre := []) (by rw [hx']; simp only [List.nil_append, List.append_assoc, List.append_nil]; rfl) (by simp [be_len]) ho.rd0 ho.rd1
 have u0 : tkP xs 0 8 = rd := by unfold tkP; rw [if_pos (by omega), t0]
 have t1 : (xs.drop 8).take 10 = [.int .u8 e0, .int .u8 e1, .int .u8 e2, .int .u8 e3, .int .u8 e4, .int .u8 e5, .int .u8 e6, .int .u8 e7, .int .u8 e8, .int .u8 e9] := by rw [hx']; rfl
 have t2 : tkN xs 18 4 = tag := tk_at (pre := be rd 8 ++ [.int .u8 e0, .int .u8 e1, .int .u8 e2, .int .u8 e3, .int .u8 e4, .int .u8 e5, .int .u8 e6, .int .u8 e7, .int .u8 e8, .int .u8 e9]) (by rw [hx']; simp only [List.nil_append, List.append_assoc, List.append_nil]; rfl) (by simp [be_len]) ho.tag0 ho.tag1
 have u2 : tkP xs 18 4 = tag := by unfold tkP; rw [if_pos (by omega), t2]
 have t3 : tkN xs 22 1 = 48 := tk_at (pre := be rd 8 ++ [.int .u8 e0, .int .u8 e1, .int .u8 e2, .int .u8 e3, .int .u8 e4, .int .u8 e5, .int .u8 e6, .int .u8 e7, .int .u8 e8, .int .u8 e9] ++ be tag 4) (by rw [hx']; simp only [List.nil_append, List.append_assoc, List.append_nil]; rfl) (by simp [be_len]) (by decide) (by decide)
 have u3 : tkP xs 22 1 = 48 := by unfold tkP; rw [if_pos (by omega), t3]
 have t4 : tkN xs 23 6 = mac := tk_at (pre := be rd 8 ++ [.int .u8 e0, .int .u8 e1, .int .u8 e2, .int .u8 e3, .int .u8 e4, .int .u8 e5, .int .u8 e6, .int .u8 e7, .int .u8 e8, .int .u8 e9] ++ be tag 4 ++ be 48 1) (by rw [hx']; simp only [List.nil_append, List.append_assoc, List.append_nil]; rfl) (by simp [be_len]) ho.mac0 ho.mac1
 have u4 : tkP xs 23 6 = mac := by unfold tkP; rw [if_pos (by omega), t4]
 have t5 : tkN xs 29 1 = 0 := tk_at (pre := be rd 8 ++ [.int .u8 e0, .int .u8 e1, .int .u8 e2, .int .u8 e3, .int .u8 e4, .int .u8 e5, .int .u8 e6, .int .u8 e7, .int .u8 e8, .int .u8 e9] ++ be tag 4 ++ be 48 1 ++ be mac 6) (by rw [hx']; simp only [List.nil_append, List.append_assoc, List.append_nil]; rfl) (by simp [be_len]) (by decide) (by decide)
 have u5 : tkP xs 29 1 = 0 := by unfold tkP; rw [if_pos (by omega), t5]
 have t6 : tkN xs 30 3 = lab := tk_at (pre := be rd 8 ++ [.int .u8 e0, .int .u8 e1, .int .u8 e2, .int .u8 e3, .int .u8 e4, .int .u8 e5, .int .u8 e6, .int .u8 e7, .int .u8 e8, .int .u8 e9] ++ be tag 4 ++ be 48 1 ++ be mac 6 ++ be 0 1) (post := []) (by rw [hx']; simp only [List.nil_append, List.append_assoc, List.append_nil]) (by simp [be_len]) ho.lab0 ho.lab1
 have u6 : tkP xs 30 3 = lab := by unfold tkP; rw [if_pos (by omega), t6]
 have ux : tkP xs 33 3 = 0 := by unfold tkP; rw [if_neg (by omega)]
 unfold VN2 V2a V2b
 rw [show aB xs = 18 from if_pos (by omega), show idN xs (rd1 xs 2) = ids ((xs.drop 8).take 10) (rd1 xs 2) from if_pos (by omega)]
 unfold ids rd1
 simp only [Nat.reduceAdd, u0, t1, u2, u3, u4, u5, u6, ux, show ((0 : Int) == 32) = false from rfl, cond_false]
 rw [w3_id (n := tag) ho.tag0 ho.tag1, w3_id (n := lab) ho.lab0 (Int.lt_trans ho.lab1 (by decide))]
 rfl
theorem vals2d {rd e0 e1 e2 e3 e4 e5 e6 e7 e8 e9 tag mac lab lab2 : Int} (ho : OkP ⟨2, rd, e0, e1, e2, e3, e4, e5, e6, e7, e8, e9, tag, mac, 0, false, 0, 0, 0, lab, lab2⟩) (h2 : (lab2 != 0) = true) : VN2 (val2 ⟨2, rd, e0, e1, e2, e3, e4, e5, e6, e7, e8, e9, tag, mac, 0, false, 0, 0, 0, lab, lab2⟩) = ⟨2, rd, e0, e1, e2, e3, e4, e5, e6, e7, e8, e9, tag, mac, 0, false, 0, 0, 0, lab, lab2⟩ := by
 have hx' : val2 ⟨2, rd, e0, e1, e2, e3, e4, e5, e6, e7, e8, e9, tag, mac, 0, false, 0, 0, 0, lab, lab2⟩ = be rd 8 ++ [.int .u8 e0, .int .u8 e1, .int .u8 e2, .int .u8 e3, .int .u8 e4, .int .u8 e5, .int .u8 e6, .int .u8 e7, .int .u8 e8, .int .u8 e9] ++ be tag 4 ++ be 48 1 ++ be mac 6 ++ be 0 1 ++ be lab 3 ++ be lab2 3 := by simp [val2, h2]
 have hl : (val2 ⟨2, rd, e0, e1, e2, e3, e4, e5, e6, e7, e8, e9, tag, mac, 0, false, 0, 0, 0, lab, lab2⟩).length = 36 := by rw [hx']; simp [be_len]
 generalize hx : val2 ⟨2, rd, e0, e1, e2, e3, e4, e5, e6, e7, e8, e9, tag, mac, 0, false, 0, 0, 0, lab, lab2⟩ = xs at hl hx'
 have t0 : tkN xs 0 8 = rd := tk_at (pre := []) (by rw [hx']; simp only [List.nil_append, List.append_assoc, List.append_nil]; rfl) (by simp [be_len]) ho.rd0 ho.rd1
 have u0 : tkP xs 0 8 = rd := by unfold tkP; rw [if_pos (by omega), t0]
 have t1 : (xs.drop 8).take 10 = [.int .u8 e0, .int .u8 e1, .int .u8 e2, .int .u8 e3, .int .u8 e4, .int .u8 e5, .int .u8 e6, .int .u8 e7, .int .u8 e8, .int .u8 e9] := by rw [hx']; rfl
 have t2 : tkN xs 18 4 = tag := tk_at (pre := be rd 8 ++ [.int .u8 e0, .int .u8 e1, .int .u8 e2, .int .u8 e3, .int .u8 e4, .int .u8 e5, .int .u8 e6, .int .u8 e7, .int .u8 e8, .int .u8 e9]) (by rw [hx']; simp only [List.nil_append, List.append_assoc, List.append_nil]; rfl) (by simp [be_len]) ho.tag0 ho.tag1
 have u2 : tkP xs 18 4 = tag := by unfold tkP; rw [if_pos (by omega), t2]
 have t3 : tkN xs 22 1 = 48 := tk_at (pre := be rd 8 ++ [.int .u8 e0, .int .u8 e1, .int .u8 e2, .int .u8 e3, .int .u8 e4, .int .u8 e5, .int .u8 e6, .int .u8 e7, .int .u8 e8, .int .u8 e9] ++ be tag 4) (by rw [hx']; simp only [List.nil_append, List.append_assoc, List.append_nil]; rfl) (by simp [be_len]) (by decide) (by decide)
 have u3 : tkP xs 22 1 = 48 := by unfold tkP; rw [if_pos (by omega), t3]
 have t4 : tkN xs 23 6 = mac := tk_at (pre := be rd 8 ++ [.int .u8 e0, .int .u8 e1, .int .u8 e2, .int .u8 e3, .int .u8 e4, .int .u8 e5, .int .u8 e6, .int .u8 e7, .int .u8 e8, .int .u8 e9] ++ be tag 4 ++ be 48 1) (by rw [hx']; simp only [List.nil_append, List.append_assoc, List.append_nil]; rfl) (by simp [be_len]) ho.mac0 ho.mac1
 have u4 : tkP xs 23 6 = mac := by unfold tkP; rw [if_pos (by omega), t4]
 have t5 : tkN xs 29 1 = 0 := tk_at (pre := be rd 8 ++ [.int .u8 e0, .int .u8 e1, .int .u8 e2, .int .u8 e3, .int .u8 e4, .int .u8 e5, .int .u8 e6, .int .u8 e7, .int .u8 e8, .int .u8 e9] ++ be tag 4 ++ be 48 1 ++ be mac 6) (by rw [hx']; simp only [List.nil_append, List.append_assoc, List.append_nil]; rfl) (by simp [be_len]) (by decide) (by decide)
 have u5 : tkP xs 29 1 = 0 := by unfold tkP; rw [if_pos (by omega), t5]
 have t6 : tkN xs 30 3 = lab := tk_at (pre := be rd 8 ++ [.int .u8 e0, .int .u8 e1, .int .u8 e2, .int .u8 e3, .int .u8 e4, .int .u8 e5, .int .u8 e6, .int .u8 e7, .int .u8 e8, .int .u8 e9] ++ be tag 4 ++ be 48 1 ++ be mac 6 ++ be 0 1) (by rw [hx']; simp only [List.nil_append, List.append_assoc, List.append_nil]; rfl) (by simp [be_len]) ho.lab0 ho.lab1
 have u6 : tkP xs 30 3 = lab := by unfold tkP; rw [if_pos (by omega), t6]
 have t7 : tkN xs 33 3 = lab2 := tk_at (pre := be rd 8 ++ [.int .u8 e0, .int .u8 e1, .int .u8 e2, .int .u8 e3, .int .u8 e4, .int .u8 e5, .int .u8 e6, .int .u8 e7, .int .u8 e8, .int .u8 e9] ++ be tag 4 ++ be 48 1 ++ be mac 6 ++ be 0 1 ++ be lab 3) (post := []) (by rw [hx']; simp only [List.nil_append, List.append_assoc, List.append_nil]) (by simp [be_len]) ho.lac0 ho.lac1
 have u7 : tkP xs 33 3 = lab2 := by unfold tkP; rw [if_pos (by omega), t7]
 unfold VN2 V2a V2b
 rw [show aB xs = 18 from if_pos (by omega), show idN xs (rd1 xs 2) = ids ((xs.drop 8).take 10) (rd1 xs 2) from if_pos (by omega)]
 unfold ids rd1
 simp only [Nat.reduceAdd, u0, t1, u2, u3, u4, u5, u6, u7, show ((0 : Int) == 32) = false from rfl, cond_false]
 rw [w3_id (n := tag) ho.tag0 ho.tag1, w3_id (n := lab) ho.lab0 (Int.lt_trans ho.lab1 (by decide)), w3_id (n := lab2) ho.lac0 (Int.lt_trans ho.lac1 (by decide))]
 rfl
end Go.Proofs.YtdgnhaacdpmclaaGreat
/- The reference's route of a value, known. -/
namespace Go.Proofs.YtdgnhaacdpmclaaGreat
open Go.Am
set_option maxRecDepth 100000
theorem tkP_rng {p : List SV} (h : okBy p) (a k : Nat) : 0 ≤ tkP p a k ∧ tkP p a k < 256 ^ k := by
 have hp : (0 : Int) < 256 ^ k := Int.pow_pos (by decide)
 unfold tkP
 split
 · exact tkN_rng h a k
 · exact ⟨Int.le_refl _, hp⟩
theorem idN_rg {p : List SV} (h : byl p) {n : Nl} (hn : RgE n) : RgE (idN p n) := by
 unfold idN
 split
 · exact ids_rg (fun v hv => h v (List.mem_of_mem_drop (List.mem_of_mem_take hv))) n
 · exact hn
theorem rd1_rg {p : List SV} (k : Int) : RgE (rd1 p k) := zE k
theorem idN_rd {p : List SV} {n : Nl} : (idN p n).rd = n.rd ∧ (idN p n).kind = n.kind ∧ (idN p n).tag = n.tag ∧ (idN p n).mac = n.mac ∧ (idN p n).ip = n.ip ∧ (idN p n).pip = n.pip ∧ (idN p n).gw = n.gw ∧ (idN p n).lab = n.lab ∧ (idN p n).lab2 = n.lab2 := by
 unfold idN
 split <;> exact ⟨rfl, rfl, rfl, rfl, rfl, rfl, rfl, rfl, rfl⟩
theorem zc {x B : Int} (h : x = 0) (hB : 0 < B) : 0 ≤ x ∧ x < B := by rw [h]; exact ⟨Int.le_refl _, hB⟩
theorem valN_rg {p : List SV} (h : byl p) (k : Int) (hk : k = 1 ∨ k = 2 ∨ k = 3 ∨ k = 4 ∨ k = 5) : RgN (valN k p) ∧ RgE (valN k p) ∧ (valN k p).kind = k := by
 have hr := fun a k => tkP_rng h.ok a k
 have hrd : ∀ k, 0 ≤ (idN p (rd1 p k)).rd ∧ (idN p (rd1 p k)).rd < 18446744073709551616 := fun k => by rw [idN_rd.1]; exact p8 (hr 0 8)
 have z1 : ∀ k, (idN p (rd1 p k)).mac = 0 := fun k => by rw [idN_rd.2.2.2.1]; rfl
 have z2 : ∀ k, (idN p (rd1 p k)).ip = 0 := fun k => by rw [idN_rd.2.2.2.2.1]; rfl
 have z3 : ∀ k, (idN p (rd1 p k)).pip = 0 := fun k => by rw [idN_rd.2.2.2.2.2.1]; rfl
 have z4 : ∀ k, (idN p (rd1 p k)).gw = 0 := fun k => by rw [idN_rd.2.2.2.2.2.2.1]; rfl
 have z5 : ∀ k, (idN p (rd1 p k)).lab = 0 := fun k => by rw [idN_rd.2.2.2.2.2.2.2.1]; rfl
 have z6' : ∀ k, (idN p (rd1 p k)).lab2 = 0 := fun k => by rw [idN_rd.2.2.2.2.2.2.2.2]; rfl
 have z7 : ∀ k, (idN p (rd1 p k)).tag = 0 := fun k => by rw [idN_rd.2.2.1]; rfl
 have z8 : ∀ k, (idN p (rd1 p k)).kind = k := fun k => by rw [idN_rd.2.1]; rfl
 have hE : ∀ k, RgE (idN p (rd1 p k)) := fun k => idN_rg h (rd1_rg k)
 rcases hk with rfl | rfl | rfl | rfl | rfl
 · refine ⟨⟨hrd 1, w3_rng _, ?_, ?_, ?_, ?_, w3_rng _, ?_⟩, hE 1, z8 1⟩
   · exact zc (z1 1) (by decide)
   · exact zc (z2 1) (by decide)
   · exact zc (z3 1) (by decide)
   · exact zc (z4 1) (by decide)
   · exact zc (z6' 1) (by decide)
 · show RgN (VN2 p) ∧ RgE (VN2 p) ∧ (VN2 p).kind = 2
   unfold VN2
   cases tkP p (aB p + 11) 1 == 32 with
   | true =>
    refine ⟨⟨hrd 2, w3_rng _, p6 (hr _ _), w3_rng _, ?_, ?_, w3_rng _, w3_rng _⟩, hE 2, z8 2⟩
    · exact zc (z3 2) (by decide)
    · exact zc (z4 2) (by decide)
   | false =>
    refine ⟨⟨hrd 2, w3_rng _, p6 (hr _ _), ?_, ?_, ?_, w3_rng _, w3_rng _⟩, hE 2, z8 2⟩
    · exact zc (z2 2) (by decide)
    · exact zc (z3 2) (by decide)
    · exact zc (z4 2) (by decide)
 · exact ⟨⟨p8 (hr 0 8), w3_rng _, z6, w3_rng _, z0, z0, z0, z0⟩, rd1_rg (p := p) 3, rfl⟩
 · refine ⟨⟨hrd 4, ?_, ?_, w3_rng _, ?_, ?_, ?_, ?_⟩, hE 4, z8 4⟩
   · exact zc (z7 4) (by decide)
   · exact zc (z1 4) (by decide)
   · exact zc (z3 4) (by decide)
   · exact zc (z4 4) (by decide)
   · exact zc (z5 4) (by decide)
   · exact zc (z6' 4) (by decide)
 · refine ⟨⟨hrd 5, w3_rng _, ?_, ?_, w3_rng _, w3_rng _, w3_rng _, ?_⟩, hE 5, z8 5⟩
   · exact zc (z1 5) (by decide)
   · exact zc (z2 5) (by decide)
   · exact zc (z6' 5) (by decide)
set_option maxHeartbeats 2000000 in
theorem valN_of {n : Nl} (hc : chk n = 0) (ho : OkP n) : valN n.kind (vK n.kind n) = n := by
 have hf := fm_of hc
 obtain ⟨kind, rd, e0, e1, e2, e3, e4, e5, e6, e7, e8, e9, tag, mac, ip, hip, pip, plen, gw, lab, lab2⟩ := n
 have hk : kind = 1 ∨ kind = 2 ∨ kind = 3 ∨ kind = 4 ∨ kind = 5 := kind_of hc
 rcases hk with rfl | rfl | rfl | rfl | rfl
 · have hf' : (mac == 0 && ip == 0 && !hip && pip == 0 && plen == 0 && gw == 0 && lab2 == 0) = true := hf
   simp only [Bool.and_eq_true, beq_iff_eq, Bool.not_eq_true'] at hf'
   obtain ⟨⟨⟨⟨⟨⟨rfl, rfl⟩, rfl⟩, rfl⟩, rfl⟩, rfl⟩, rfl⟩ := hf'
   exact vals1 ho
 · have hf' : (pip == 0 && plen == 0 && gw == 0 && (hip || ip == 0)) = true := hf
   simp only [Bool.and_eq_true, beq_iff_eq, Bool.or_eq_true] at hf'
   obtain ⟨⟨⟨rfl, rfl⟩, rfl⟩, h4⟩ := hf'
   cases hip with
   | true =>
    by_cases h2 : lab2 = 0
    · subst h2; exact vals2a ho
    · exact vals2b ho (by simpa using h2)
   | false =>
    have : ip = 0 := by simpa using h4
    subst this
    by_cases h2 : lab2 = 0
    · subst h2; exact vals2c ho
    · exact vals2d ho (by simpa using h2)
 · have hf' : (e0 == 0 && e1 == 0 && e2 == 0 && e3 == 0 && e4 == 0 && e5 == 0 && e6 == 0 && e7 == 0 && e8 == 0 && e9 == 0 && mac == 0 && hip && pip == 0 && plen == 0 && gw == 0 && lab == 0 && lab2 == 0) = true := hf
   simp only [Bool.and_eq_true, beq_iff_eq] at hf'
   obtain ⟨⟨⟨⟨⟨⟨⟨⟨⟨⟨⟨⟨⟨⟨⟨⟨rfl, rfl⟩, rfl⟩, rfl⟩, rfl⟩, rfl⟩, rfl⟩, rfl⟩, rfl⟩, rfl⟩, rfl⟩, rfl⟩, rfl⟩, rfl⟩, rfl⟩, rfl⟩, rfl⟩ := hf'
   exact vals3 ho
 · have hf' : (tag == 0 && mac == 0 && hip && pip == 0 && plen == 0 && gw == 0 && lab == 0 && lab2 == 0) = true := hf
   simp only [Bool.and_eq_true, beq_iff_eq] at hf'
   obtain ⟨⟨⟨⟨⟨⟨⟨rfl, rfl⟩, rfl⟩, rfl⟩, rfl⟩, rfl⟩, rfl⟩, rfl⟩ := hf'
   exact vals4 ho
 · have hf' : (mac == 0 && ip == 0 && !hip && lab2 == 0) = true := hf
   simp only [Bool.and_eq_true, beq_iff_eq, Bool.not_eq_true'] at hf'
   obtain ⟨⟨⟨rfl, rfl⟩, rfl⟩, rfl⟩ := hf'
   exact vals5 ho
noncomputable def value_s : CSumm := fun args H => match args, H with
 | [.int .i64 k, .psl 5 p], [] => .ite (dec (byl p ∧ p.length ≤ 1000000 ∧ (k = 1 ∨ k = 2 ∨ k = 3 ∨ k = 4 ∨ k = 5))) (.ret (valN k p).v []) .fail
 | _, _ => .fail
section
variable {p : List SV} (hb : byl p) (hl : p.length ≤ 1000000)
include hb hl
theorem tkK_ok {a k : Nat} (h1 : a ≤ 1000000) (h2 : k ≤ 8) (K : CTree) : tkK p a k K = K := by
 unfold tkK
 rw [dec_iff.2 ⟨hb.ok, hl, by omega, by omega, by omega, by omega⟩]; rfl
omit hb hl in
theorem idQ_ok (K : Nat → Nl → CTree) (n : Nl) : idQ p K n = K (aB p) (idN p n) := by
 unfold idQ aB idN
 by_cases h : 18 ≤ p.length
 · rw [if_pos h, if_pos h, decide_eq_true (show (p.length : Int) ≥ 18 by omega), decide_eq_true (show (0 : Int) ≤ 8 by decide), decide_eq_true (show (8 : Int) ≤ 18 by decide),
     decide_eq_true (show ((p.drop 8).take 10).length ≤ ((10 : Nat) : Int).toNat - (0 : Int).toNat by rw [List.length_take]; show _ ≤ 10; omega)]; rfl
 · rw [if_neg h, if_neg h, decide_eq_false (show ¬ (p.length : Int) ≥ 18 by omega)]; rfl
omit hb hl in
theorem aB_le : aB p ≤ 18 := by unfold aB; split <;> omega
theorem value_ok {k : Int} (hk : k = 1 ∨ k = 2 ∨ k = 3 ∨ k = 4 ∨ k = 5) : opn κt Tryz.f117 [.int .i64 k, .psl 5 p] [] = .ret (valN k p).v [] := by
 have ha := aB_le (p := p)
 have ok := fun (a k : Nat) (K : CTree) (h1 : a ≤ 1000000) (h2 : k ≤ 8) => tkK_ok hb hl h1 h2 K
 rcases hk with rfl | rfl | rfl | rfl | rfl
 · refine (val_t1 p).trans ?_
   rw [idQ_ok]
   exact (ok 0 8 _ (by omega) (by omega)).trans ((ok _ 4 _ (by omega) (by omega)).trans (ok _ 3 _ (by omega) (by omega)))
 · refine (val_t2 p).trans ?_
   rw [idQ_ok]
   refine (ok 0 8 _ (by omega) (by omega)).trans ((ok _ 4 _ (by omega) (by omega)).trans ((ok _ 6 _ (by omega) (by omega)).trans ((ok _ 1 _ (by omega) (by omega)).trans ?_)))
   show _ = CTree.ret (VN2 p).v []
   unfold VN2
   cases tkP p (aB p + 11) 1 == 32 with
   | true => exact (ok _ 4 _ (by omega) (by omega)).trans ((ok _ 3 _ (by omega) (by omega)).trans (ok _ 3 _ (by omega) (by omega)))
   | false => exact (ok _ 3 _ (by omega) (by omega)).trans (ok _ 3 _ (by omega) (by omega))
 · refine (val_t3 p).trans ?_
   exact (ok 0 8 _ (by omega) (by omega)).trans ((ok 8 4 _ (by omega) (by omega)).trans (ok 13 4 _ (by omega) (by omega)))
 · refine (val_t4 p).trans ?_
   rw [idQ_ok]
   exact (ok 0 8 _ (by omega) (by omega)).trans (ok _ 4 _ (by omega) (by omega))
 · refine (val_t5 p).trans ?_
   rw [idQ_ok]
   exact (ok 0 8 _ (by omega) (by omega)).trans ((ok _ 4 _ (by omega) (by omega)).trans ((ok _ 4 _ (by omega) (by omega)).trans ((ok _ 1 _ (by omega) (by omega)).trans ((ok _ 4 _ (by omega) (by omega)).trans (ok _ 3 _ (by omega) (by omega))))))
end
theorem value_k : Known Tryz.prog 117 value_s := (openKnown tOk Tryz.func117 rfl).weak (by
 intro args H v ups h
 unfold value_s at h
 split at h
 · rename_i k p
   rw [crun_ite] at h
   cases hc : dec (byl p ∧ p.length ≤ 1000000 ∧ (k = 1 ∨ k = 2 ∨ k = 3 ∨ k = 4 ∨ k = 5)) with
   | false => rw [hc] at h; cases h
   | true =>
    rw [hc] at h
    obtain ⟨h1, h2, h3⟩ := dec_iff.1 hc
    exact (congrArg crun (value_ok h1 h2 h3)).trans h
 · cases h)
end Go.Proofs.YtdgnhaacdpmclaaGreat
/- The reference's bytes of a route, valid or not. -/
namespace Go.Proofs.YtdgnhaacdpmclaaGreat
open Go.Am
set_option maxRecDepth 100000
noncomputable def rb_s : CSumm := fun args H => match args, H with
 | [x], [] => match nlOf x with
  | some n => .ite (dec (RgN n ∧ (n.kind = 1 ∨ n.kind = 2 ∨ n.kind = 3 ∨ n.kind = 4 ∨ n.kind = 5))) (.ite (chk n != 0) (.ret (.tup [.nils, .int .i64 (chk n)]) []) (.ret (.tup [.qs 0 1 0 (nb n).length, .int .i64 0]) [(0, some (.seq 5 (nb n)))])) .fail
  | none => .fail
 | _, _ => .fail
theorem rb_bad {n : Nl} (hk : n.kind = 1 ∨ n.kind = 2 ∨ n.kind = 3 ∨ n.kind = 4 ∨ n.kind = 5) (hc : (chk n != 0) = true) : opn κe Tryz.f18 [n.v] [] = .ret (.tup [.nils, .int .i64 (chk n)]) [] := by
 obtain ⟨kind, rd, e0, e1, e2, e3, e4, e5, e6, e7, e8, e9, tag, mac, ip, hip, pip, plen, gw, lab, lab2⟩ := n
 simp only [] at hk
 obtain rfl | rfl | rfl | rfl | rfl := hk
 · rw [rby_t1, hc]; rfl
 · cases hip with
   | true => rw [rby_t2true, hc]; rfl
   | false => rw [rby_t2false, hc]; rfl
 · rw [rby_t3, hc]; rfl
 · rw [rby_t4, hc]; rfl
 · rw [rby_t5, hc]; rfl
theorem rb_k : Known Tryz.prog 18 rb_s := by
 refine ⟨rbytes_k.fn, fun args H v ups h => ?_⟩
 unfold rb_s at h
 split at h
 · rename_i x
   split at h
   · rename_i n hn
     have hx := nlOf_v hn
     subst hx
     rw [crun_ite] at h
     cases hd : dec (RgN n ∧ (n.kind = 1 ∨ n.kind = 2 ∨ n.kind = 3 ∨ n.kind = 4 ∨ n.kind = 5)) with
     | false => rw [hd] at h; cases h
     | true =>
      rw [hd, cond_true, crun_ite] at h
      obtain ⟨h1, h2⟩ := dec_iff.1 hd
      cases hc : chk n != 0 with
      | true =>
       rw [hc] at h
       exact (openKnown eOk Tryz.func18 rfl).ok _ _ v ups ((congrArg crun (rb_bad h2 hc)).trans h)
      | false =>
       rw [hc, cond_false] at h
       have hc0 : chk n = 0 := by simpa using hc
       refine rbytes_k.ok _ _ v ups ?_
       unfold nbytes_s
       simp only [hn]
       rw [crun_ite, decide_eq_true (show chk n = 0 ∧ OkP n from ⟨hc0, okP_of h1 hc0⟩), cond_true]
       exact h
   · cases h
 · cases h
/- The reference's loop over routes. -/
noncomputable def body111 : Code := Tryz.f111.body.getD .skip
noncomputable def c111 : Code := (loopAt 3 body111).getD .skip
noncomputable def rl_s : CSumm := fun args H => match args, H with
 | [.psl 5 p, .ptr 0 0, .qs 1 21 0 m, .int .i64 a], [(0, .cells 37 [.int .i64 0, .int .i64 0]), (1, .seq 49 rs)] => .ite (dec (byl p ∧ p.length ≤ 1000000 ∧ m = rs.length ∧ rs.length ≤ 4096 ∧ 0 ≤ a ∧ a ≤ p.length))
   (.ite ((pcsL (p.drop a.toNat) a rs).1 == 0)
    (.ret (.tup [.int .i64 2, .junk, .ptr 0 0, .qs 2 21 0 (pcsL (p.drop a.toNat) a rs).2.2.length]) [(1, none), (2, some (.seq 49 (pcsL (p.drop a.toNat) a rs).2.2))])
    (.ret (.tup [.int .i64 1, .nils, .ptr 0 0, .qs 2 21 0 (pcsL (p.drop a.toNat) a rs).2.2.length]) [(0, some (.cells 37 [.int .i64 (pcsL (p.drop a.toNat) a rs).1, .int .i64 (pcsL (p.drop a.toNat) a rs).2.1])), (1, none), (2, some (.seq 49 (pcsL (p.drop a.toNat) a rs).2.2))])) .fail
 | _, _ => .fail
def rlM : List SV → HpL → Nat
 | [.psl _ p, _, _, .int _ a], _ => p.length - a.toNat
 | _, _ => 0
noncomputable def e111 : LEnt := { ins := [0, 3, 4, 5], outs := [2, 3, 4], keep := [], size := 96, code := c111, s := rl_s }
noncomputable abbrev κv := tbl [(117, value_s), (18, rb_s)]
theorem vOk : KOk Tryz.prog κv := tbl_cons value_k (tbl_cons rb_k ok0)
noncomputable abbrev κw := openT Tryz.prog κv 300 5
noncomputable abbrev ιw : Nat → Bool := fun g => inl κv g && hasBody Tryz.prog g
end Go.Proofs.YtdgnhaacdpmclaaGreat
/- The reference's loop over routes: a round. -/
namespace Go.Proofs.YtdgnhaacdpmclaaGreat
open Go.Am
set_option maxRecDepth 100000
abbrev w64 (n : Int) : Int := IntKind.i64.wrap n
def rEnd (p : List SV) (a : Int) : Int := w64 (w64 (a + 2) + w64 (dg p (w64 (a + 1)).toNat))
def rKd (p : List SV) (a : Int) : Int := w64 (dg p a.toNat)
def rVal (p : List SV) (a : Int) : List SV := (p.drop (w64 (a + 2)).toNat).take ((rEnd p a).toNat - (w64 (a + 2)).toNat)
def rPce (p : List SV) (a : Int) : List SV := (p.drop a.toNat).take ((rEnd p a).toNat - a.toNat)
def rFlt (m : Nat) (c a : Int) : CTree := .ret (.tup [.int .i64 1, .nils, .ptr 0 0, .qs 1 21 0 m]) [(0, some (.cells 37 [.int .i64 c, .int .i64 a]))]
noncomputable def rNext (N : Nat) (p : List SV) (m : Nat) (rs : List SV) (a : Int) : CTree :=
 bif Nat.blt (p.length - a.toNat) N then bif dec (byl p ∧ p.length ≤ 1000000 ∧ m = rs.length ∧ rs.length ≤ 4096 ∧ 0 ≤ a ∧ a ≤ p.length) then
  bif (pcsL (p.drop a.toNat) a rs).1 == 0 then .ret (.tup [.int .i64 2, .junk, .ptr 0 0, .qs 2 21 0 (pcsL (p.drop a.toNat) a rs).2.2.length]) [(1, none), (2, some (.seq 49 (pcsL (p.drop a.toNat) a rs).2.2))]
  else .ret (.tup [.int .i64 1, .nils, .ptr 0 0, .qs 2 21 0 (pcsL (p.drop a.toNat) a rs).2.2.length]) [(0, some (.cells 37 [.int .i64 (pcsL (p.drop a.toNat) a rs).1, .int .i64 (pcsL (p.drop a.toNat) a rs).2.1])), (1, none), (2, some (.seq 49 (pcsL (p.drop a.toNat) a rs).2.2))]
 else .fail else .fail
noncomputable def rTail (N : Nat) (p : List SV) (m : Nat) (rs : List SV) (a : Int) (x : Nl) (bs : List UInt8) : CTree :=
 bif decide (0 ≤ a) && decide (a ≤ rEnd p a) && decide (rEnd p a ≤ p.length) then bif !(bs == (rPce p a).map Am.byteOf) then rFlt m 3 a
  else bif decide (m = rs.length) then bif grB rs.length then rNext N p (rs.length + 1) (rs ++ [x.v]) (rEnd p a) else .fail else .fail else .fail
noncomputable def rVK (N : Nat) (p : List SV) (m : Nat) (rs : List SV) (a : Int) (x : Nl) : CTree :=
 bif dec (RgN x ∧ (x.kind = 1 ∨ x.kind = 2 ∨ x.kind = 3 ∨ x.kind = 4 ∨ x.kind = 5)) then
  bif chk x != 0 then (bif chk x != 0 then rFlt m 3 a else rTail N p m rs a x (([] : List SV).map Am.byteOf)) else strG (nb x) (rTail N p m rs a x)
 else .fail
theorem round111 (N m : Nat) (p rs : List SV) (a : Int) : loopOnce Tryz.prog κw ιw (ltab []) true 300 e111 { e111 with s := boundT rlM rl_s N } c111 [.psl 5 p, .ptr 0 0, .qs 1 21 0 m, .int .i64 a] [(0, .cells 37 [.int .i64 0, .int .i64 0]), (1, .seq 49 rs)] =
 bif decide (a < p.length) then bif (m : Int) == 4096 then rFlt m 7 a else bif decide (w64 (a + 2) > p.length) then rFlt m 4 a else bif inB (w64 (a + 1)) p.length then bif decide (rEnd p a > p.length) then rFlt m 4 a else
  bif inB a p.length then bif inB (w64 (a + 1)) p.length then bif (bif decide (rKd p a < 1) then true else decide (rKd p a > 5)) then rFlt m 6 a else
   bif decide (0 ≤ w64 (a + 2)) && decide (w64 (a + 2) ≤ rEnd p a) && decide (rEnd p a ≤ p.length) then
    bif dec (byl (rVal p a) ∧ (rVal p a).length ≤ 1000000 ∧ (rKd p a = 1 ∨ rKd p a = 2 ∨ rKd p a = 3 ∨ rKd p a = 4 ∨ rKd p a = 5)) then rVK N p m rs a (valN (rKd p a) (rVal p a)) else .fail
   else .fail else .fail else .fail else .fail
 else .ret (.tup [.int .i64 2, .junk, .ptr 0 0, .qs 1 21 0 m]) [] := by kernel_rfl
end Go.Proofs.YtdgnhaacdpmclaaGreat
/- The reference's loop over routes, valid. -/
namespace Go.Proofs.YtdgnhaacdpmclaaGreat
open Go.Am
set_option maxRecDepth 100000
def rlH (rs : List SV) : HpL := [(0, .cells 37 [.int .i64 0, .int .i64 0]), (1, .seq 49 rs)]
theorem rlH_ren {L : Nat} {rs rs' : List SV} {c0 : Chunk} (h0 : renC (sw 1 2) c0 = c0) : ∀ x, updF [(0, some c0), (1, none), (2, some (.seq 49 rs))] (rlH rs).get x =
  if x = 2 then (updF [(0, some c0)] (rlH rs).get 1).map (renC (sw 1 2)) else if x = 1 then none else (updF [(0, some c0)] (rlH rs).get x).map (renC (sw 1 2))
 | 0 => by show some c0 = some (renC (sw 1 2) c0); rw [h0]
 | 1 => rfl | 2 => rfl
 | x + 3 => by
  have h1 : ∀ k, k < 3 → ¬ (x + 3 = k) := fun k hk => by omega
  have h2 : ∀ k, k < 3 → Nat.beq k (x + 3) = false := fun k hk => nb_f (by omega)
  simp only [updF, rlH, HpL.get, h1 2 (by omega), h1 1 (by omega), h1 0 (by omega), if_false, h2 0 (by omega), h2 1 (by omega), cond_false, Option.map_none]
theorem rlH_no {rs : List SV} : ∀ x c, (rlH rs).get x = some c → 2 ∉ namesC c := by
 intro x c hx
 have := HpL_get_some _ _ _ hx
 simp only [rlH, List.mem_cons, Prod.mk.injEq, List.not_mem_nil, or_false] at this
 rcases this with ⟨_, rfl⟩ | ⟨_, rfl⟩ <;> simp [namesC, namesL, namesS]
theorem flt_ren {rs : List SV} {c a : Int} : Renamed (rlH rs) (.tup [.int .i64 1, .nils, .ptr 0 0, .qs 1 21 0 rs.length]) [(0, some (.cells 37 [.int .i64 c, .int .i64 a]))]
  (.tup [.int .i64 1, .nils, .ptr 0 0, .qs 2 21 0 rs.length]) [(0, some (.cells 37 [.int .i64 c, .int .i64 a])), (1, none), (2, some (.seq 49 rs))] := by
 refine ⟨1, 2, by simp [rlH], by simp [namesS, namesL], ?_, rfl, rlH_ren (L := 0) (rs' := []) rfl⟩
 intro x c' hx
 simp only [updF] at hx
 by_cases h0 : x = 0
 · rw [if_pos h0] at hx; cases hx; simp [namesC, namesL, namesS]
 · rw [if_neg h0] at hx; exact rlH_no x c' hx
theorem end_ren {rs : List SV} : Renamed (rlH rs) (.tup [.int .i64 2, .junk, .ptr 0 0, .qs 1 21 0 rs.length]) [] (.tup [.int .i64 2, .junk, .ptr 0 0, .qs 2 21 0 rs.length]) [(1, none), (2, some (.seq 49 rs))] := by
 refine ⟨1, 2, by simp [rlH], by simp [namesS, namesL], fun x c hx => rlH_no x c hx, rfl, fun x => ?_⟩
 have := rlH_ren (L := 0) (rs := rs) (rs' := []) (c0 := .cells 37 [.int .i64 0, .int .i64 0]) rfl x
 have e : ∀ l x, updF ((0, some (.cells 37 [.int .i64 0, .int .i64 0])) :: l) (rlH rs).get x = updF l (rlH rs).get x := by
  intro l x
  show updF l _ x = updF l _ x
  congr 1
  funext y
  by_cases h0 : y = 0
  · subst h0; rfl
  · rw [if_neg h0]
 rw [e, e, e] at this
 exact this
section
variable {p : List SV} {a : Int} (hb : byl p) (hl : p.length ≤ 1000000) (h0 : 0 ≤ a) (h1 : a < p.length)
include hb hl h0 h1
theorem q_len : (p.drop a.toNat).length = p.length - a.toNat ∧ byl (p.drop a.toNat) ∧ (p.drop a.toNat).length ≠ 0 := by
 have h := List.length_drop (l := p) (i := a.toNat)
 exact ⟨h, hb.dropb _, by omega⟩
omit hl h1 hb in
theorem q_dg (j : Nat) : dg (p.drop a.toNat) j = dg p (a + j).toNat := by
 unfold dg
 rw [List.getD_eq_getElem?_getD, List.getElem?_drop, List.getD_eq_getElem?_getD, show a.toNat + j = (a + j).toNat by omega]
theorem rEnd_eq : rEnd p a = a + 2 + dg (p.drop a.toNat) 1 := by
 obtain ⟨r1, r2⟩ := (hb.dropb a.toNat).ok 1
 have hd : dg p (w64 (a + 1)).toNat = dg (p.drop a.toNat) 1 := by
  rw [q_dg h0 1, show w64 (a + 1) = a + 1 from w64_id (by omega) (by omega)]; rfl
 unfold rEnd
 rw [hd]
 show IntKind.i64.wrap (IntKind.i64.wrap (a + 2) + IntKind.i64.wrap _) = _
 rw [w64_id (n := a + 2) (by omega) (by omega), w64_id (n := dg (p.drop a.toNat) 1) (by omega) (by omega), w64_id (by omega) (by omega)]
omit hl h1 in
theorem rKd_eq : rKd p a = dg (p.drop a.toNat) 0 := by
 obtain ⟨r1, r2⟩ := (hb.dropb a.toNat).ok 0
 have hd : dg p a.toNat = dg (p.drop a.toNat) 0 := by rw [q_dg h0 0]; simp
 unfold rKd
 rw [hd]
 exact w64_id (by omega) (by omega)
omit hl h0 h1 in
theorem pce_cut (hc : ((p.drop a.toNat).length : Int) < 2 + dg (p.drop a.toNat) 1 ∨ (p.drop a.toNat).length < 2) : decE ((p.drop a.toNat).take (szP (p.drop a.toNat))) = 4 := by
 obtain ⟨r1, r2⟩ := (hb.dropb a.toNat).ok 1
 have hs : szP (p.drop a.toNat) = (p.drop a.toNat).length := by unfold szP; split <;> omega
 rw [hs, List.take_length]
 unfold decE
 by_cases h2 : (p.drop a.toNat).length < 2
 · rw [if_pos h2]
 · rw [if_neg h2, if_pos (by omega)]
end
theorem pce_ok {q : List SV} (hb : byl q) (hc : ¬ (q.length : Int) < 2 + dg q 1) : (szP q : Int) = 2 + dg q 1 ∧ (q.take (szP q)).length = szP q ∧ dg (q.take (szP q)) 0 = dg q 0 ∧ dg (q.take (szP q)) 1 = dg q 1 ∧ 2 ≤ szP q ∧ szP q ≤ q.length ∧ byl (q.take (szP q)) := by
 obtain ⟨r1, r2⟩ := hb.ok 1
 have hs : szP q = (2 + dg q 1).toNat := by unfold szP; split <;> omega
 have hle := szP_le (p := q)
 have h2 : 2 ≤ szP q := by omega
 have hd : ∀ j, j < 2 → dg (q.take (szP q)) j = dg q j := by
  intro j hj
  unfold dg
  rw [List.getD_eq_getElem?_getD, List.getElem?_take, if_pos (by omega), List.getD_eq_getElem?_getD]
 exact ⟨by omega, by rw [List.length_take]; omega, hd 0 (by omega), hd 1 (by omega), h2, hle, fun v hv => hb v (List.mem_of_mem_take hv)⟩
theorem rl_valid : ValidL Tryz.prog e111 := loop_valid2 (κ := κw) (ι := ιw) (T := ltab []) (sp := true) (fuel := 300) (c := c111) (μ := rlM) (openT_ok noNumTry mixTry vOk 300 5) mixTry ltab_nil (show fillC (ltab []) c111 = c111 by kernel_rfl) (by
 intro N args H v' ups' hbt h
 unfold e111 rl_s at h
 simp only [] at h
 split at h
 · rename_i p m a rs
   rw [crun_ite] at h
   cases hc : dec (byl p ∧ p.length ≤ 1000000 ∧ m = rs.length ∧ rs.length ≤ 4096 ∧ 0 ≤ a ∧ a ≤ p.length) with
   | false => rw [hc] at h; cases h
   | true =>
    rw [hc, cond_true] at h
    obtain ⟨hb, hl, rfl, h4, h0, h1⟩ := dec_iff.1 hc
    have hrd := round111 N rs.length p rs a
    have hN : Nat.blt (p.length - a.toNat) (N + 1) = true := hbt
    by_cases hlt : a < p.length
    · obtain ⟨hq, hbq, hq0⟩ := q_len hb hl h0 hlt
      have hE := rEnd_eq hb hl h0 hlt
      have hK := rKd_eq (a := a) hb h0
      have hcut := pce_cut (a := a) hb
      obtain ⟨d1, d2⟩ := hbq.ok 1
      have w2 : w64 (a + 2) = a + 2 := w64_id (by omega) (by omega)
      have w1 : w64 (a + 1) = a + 1 := w64_id (by omega) (by omega)
      rw [decide_eq_true hlt, cond_true] at hrd
      rw [pcsL_step hbq hq0] at h
      by_cases h46 : rs.length = 4096
      · rw [if_pos h46] at h
        rw [show ((rs.length : Int) == 4096) = true by simp; omega] at hrd
        cases h
        exact .inr ⟨_, _, congrArg crun hrd, flt_ren⟩
      rw [if_neg h46] at h
      rw [show ((rs.length : Int) == 4096) = false by simp; omega, cond_false, w2] at hrd
      by_cases hcs : (p.drop a.toNat).length < 2
      · rw [hcut (.inr hcs), if_pos (by decide)] at h
        rw [decide_eq_true (show a + 2 > (p.length : Int) by omega)] at hrd
        cases h
        exact .inr ⟨_, _, congrArg crun hrd, flt_ren⟩
      rw [decide_eq_false (show ¬ a + 2 > (p.length : Int) by omega), cond_false, w1, show inB (a + 1) p.length = true by unfold inB; simp; omega, cond_true] at hrd
      by_cases hcl : ((p.drop a.toNat).length : Int) < 2 + dg (p.drop a.toNat) 1
      · rw [hcut (.inl hcl), if_pos (by decide)] at h
        rw [decide_eq_true (show rEnd p a > (p.length : Int) by omega)] at hrd
        cases h
        exact .inr ⟨_, _, congrArg crun hrd, flt_ren⟩
      rw [decide_eq_false (show ¬ rEnd p a > (p.length : Int) by omega), cond_false, show inB a p.length = true by unfold inB; simp; omega, cond_true, cond_true] at hrd
      obtain ⟨s1, s2, s3, s4, s5, s6, s7⟩ := pce_ok hbq hcl
      have hEs : rEnd p a = a + (szP (p.drop a.toNat) : Nat) := by omega
      have hV : rVal p a = ((p.drop a.toNat).take (szP (p.drop a.toNat))).drop 2 := by
       unfold rVal
       rw [w2, hEs, List.drop_take, List.drop_drop, show (a + 2).toNat = a.toNat + 2 by omega, show (a + (szP (p.drop a.toNat) : Nat)).toNat - (a.toNat + 2) = szP (p.drop a.toNat) - 2 by omega]
      have hP : rPce p a = (p.drop a.toNat).take (szP (p.drop a.toNat)) := by
       unfold rPce
       rw [hEs, show (a + (szP (p.drop a.toNat) : Nat)).toNat - a.toNat = szP (p.drop a.toNat) by omega]
      generalize hk : szP (p.drop a.toNat) = k at *
      generalize hpc : (p.drop a.toNat).take k = pc at *
      rw [hK] at hrd
      by_cases hk6 : dg pc 0 < 1 ∨ 5 < dg pc 0
      · have he : decE pc = 6 := by unfold decE; rw [if_neg (by omega), if_neg (by omega), if_pos hk6]
        rw [he, if_pos (by decide)] at h
        have : (bif decide (dg (p.drop a.toNat) 0 < 1) then true else decide (dg (p.drop a.toNat) 0 > 5)) = true := by
         by_cases hx : dg (p.drop a.toNat) 0 < 1
         · rw [decide_eq_true hx]; rfl
         · rw [decide_eq_false hx, cond_false]; exact decide_eq_true (by omega)
        rw [this] at hrd
        cases h
        exact .inr ⟨_, _, congrArg crun hrd, flt_ren⟩
      have hkk : dg pc 0 = 1 ∨ dg pc 0 = 2 ∨ dg pc 0 = 3 ∨ dg pc 0 = 4 ∨ dg pc 0 = 5 := by omega
      have hbv : byl (pc.drop 2) := s7.dropb 2
      obtain ⟨q1, q2, q3⟩ := valN_rg hbv _ hkk
      rw [decide_eq_false (show ¬ dg (p.drop a.toNat) 0 < 1 by omega), decide_eq_false (show ¬ dg (p.drop a.toNat) 0 > 5 by omega), cond_false, cond_false, decide_eq_true (show 0 ≤ a + 2 by omega), decide_eq_true (show a + 2 ≤ rEnd p a by omega), decide_eq_true (show rEnd p a ≤ (p.length : Int) by omega), hV, ← s3,
       dec_iff.2 ⟨hbv, by rw [List.length_drop]; omega, hkk⟩] at hrd
      simp only [Bool.and_self, cond_true] at hrd
      unfold rVK at hrd
      rw [dec_iff.2 ⟨q1, by rw [q3]; exact hkk⟩, cond_true] at hrd
      by_cases hex : ∃ n, DecOk pc n
      · obtain ⟨n, hn⟩ := hex
        obtain ⟨v1, v2, v3, v4, v5⟩ := dec_val hn
        have hx : valN (dg pc 0) (pc.drop 2) = n := by rw [v3, v1]; exact valN_of hn.1 hn.2.1
        rw [decE_ok hn, if_neg (by simp), decN_eq hn] at h
        rw [hx, hn.1, strG_ok, hn.2.2] at hrd
        unfold rTail at hrd
        have hblt : Nat.blt (p.length - (a + (k : Nat)).toNat) N = true := by rw [Nat.blt_eq] at hN ⊢; omega
        rw [hP, hEs, decide_eq_true h0, decide_eq_true (show a ≤ a + (k : Nat) by omega), decide_eq_true (show a + (k : Nat) ≤ (p.length : Int) by omega), decide_eq_true rfl, show grB rs.length = true by unfold grB; simp; omega] at hrd
        simp only [Bool.and_self, cond_true, beq_self_eq_true, Bool.not_true, cond_false, bne_self_eq_false] at hrd
        unfold rNext at hrd
        rw [hblt, dec_iff.2 ⟨hb, hl, by simp, by simp; omega, by omega, by omega⟩, cond_true, cond_true, show (a + (k : Nat)).toNat = a.toNat + k by omega, ← List.drop_drop] at hrd
        generalize pcsL ((p.drop a.toNat).drop k) (a + k) (rs ++ [n.v]) = r at *
        rw [crun_ite] at h
        cases he : r.1 == 0 with
        | true => rw [he] at h hrd; cases h; exact .inl ⟨_, congrArg crun hrd, fun x => rfl⟩
        | false => rw [he] at h hrd; cases h; exact .inl ⟨_, congrArg crun hrd, fun x => rfl⟩
      · have he : decE pc = 3 := by unfold decE; rw [if_neg (by omega), if_neg (by omega), if_neg hk6, if_neg hex]
        rw [he, if_pos (by decide)] at h
        cases h
        refine .inr ⟨_, _, (congrArg crun hrd).trans ?_, flt_ren⟩
        generalize valN (dg pc 0) (pc.drop 2) = x at *
        cases hcc : chk x != 0 with
        | true => rfl
        | false =>
         have hc0 : chk x = 0 := by simpa using hcc
         rw [cond_false, strG_ok]
         unfold rTail
         rw [hP, hEs, decide_eq_true h0, decide_eq_true (show a ≤ a + (k : Nat) by omega), decide_eq_true (show a + (k : Nat) ≤ (p.length : Int) by omega)]
         simp only [Bool.and_self, cond_true]
         cases hq2 : ((nb x).map Am.byteOf == pc.map Am.byteOf) with
         | false => rfl
         | true => exact absurd ⟨x, hc0, okP_of q1 hc0, byte_inj (nb_byl q2) s7 (eq_of_beq hq2)⟩ hex
    · have hq0 : (p.drop a.toNat).length = 0 := by rw [List.length_drop]; omega
      rw [decide_eq_false hlt, cond_false] at hrd
      rw [pcsL_nil hq0] at h
      cases h
      exact .inr ⟨_, _, congrArg crun hrd, end_ren⟩
 · cases h)
end Go.Proofs.YtdgnhaacdpmclaaGreat
