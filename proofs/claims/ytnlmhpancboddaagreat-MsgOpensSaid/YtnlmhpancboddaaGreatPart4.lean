/- Routes: their values are put. -/
import Derived.Test.YtnlmhpancboddaaGreatPart1
import Derived.Test.YtnlmhpancboddaaGreatPart3
import Derived.Test.YtnlmhpancboddaaGreatMachine7
set_option linter.unusedVariables false
set_option linter.unusedSimpArgs false
namespace Go.Proofs.YtnlmhpancboddaaGreat
open Go.Am
set_option maxRecDepth 100000
abbrev κb := tbl [(82, check_s), (27, wr_s 1), (26, wr_s 2), (108, wr_s 3), (41, wr_s 4), (177, wr_s 6), (172, wr_s 8), (24, bytes_s), (28, out_s)]
theorem bOk : KOk Tryz.prog κb := tbl_cons ncheck_k (tbl_cons u8_k (tbl_cons u16_k (tbl_cons u24_k (tbl_cons u32_k (tbl_cons u48_k (tbl_cons u64_k (tbl_cons bytes_k (tbl_cons out_k ok0))))))))
structure OkP (n : Nl) : Prop where
 (rd0 : 0 ≤ n.rd) (rd1 : n.rd < 18446744073709551616) (tag0 : 0 ≤ n.tag) (tag1 : n.tag < 4294967296) (mac0 : 0 ≤ n.mac) (mac1 : n.mac < 281474976710656) (ip0 : 0 ≤ n.ip) (ip1 : n.ip < 4294967296) (pip0 : 0 ≤ n.pip) (pip1 : n.pip < 4294967296) (pl0 : 0 ≤ n.plen) (pl1 : n.plen < 256) (gw0 : 0 ≤ n.gw) (gw1 : n.gw < 4294967296) (lab0 : 0 ≤ n.lab) (lab1 : n.lab < 16777216) (lac0 : 0 ≤ n.lab2) (lac1 : n.lab2 < 16777216)
noncomputable instance okPDec (n : Nl) : Decidable (OkP n) := Classical.propDecidable _
theorem wu_id {n : Int} (h1 : 0 ≤ n) (h2 : n < 18446744073709551616) : IntKind.u64.wrap n = n := by
 simp [IntKind.wrap, IntKind.bits, IntKind.signed]; omega
def val1 (n : Nl) : List SV := be n.rd 8 ++ [.int .u8 n.e0, .int .u8 n.e1, .int .u8 n.e2, .int .u8 n.e3, .int .u8 n.e4, .int .u8 n.e5, .int .u8 n.e6, .int .u8 n.e7, .int .u8 n.e8, .int .u8 n.e9] ++ be n.tag 4 ++ be n.lab 3
def val2 (n : Nl) : List SV := be n.rd 8 ++ [.int .u8 n.e0, .int .u8 n.e1, .int .u8 n.e2, .int .u8 n.e3, .int .u8 n.e4, .int .u8 n.e5, .int .u8 n.e6, .int .u8 n.e7, .int .u8 n.e8, .int .u8 n.e9] ++ be n.tag 4 ++ be 48 1 ++ be n.mac 6 ++ (bif n.hip then be 32 1 ++ be n.ip 4 else be 0 1) ++ be n.lab 3 ++ (bif n.lab2 != 0 then be n.lab2 3 else [])
def val3 (n : Nl) : List SV := be n.rd 8 ++ be n.tag 4 ++ be 32 1 ++ be n.ip 4
def val4 (n : Nl) : List SV := be n.rd 8 ++ [.int .u8 n.e0, .int .u8 n.e1, .int .u8 n.e2, .int .u8 n.e3, .int .u8 n.e4, .int .u8 n.e5, .int .u8 n.e6, .int .u8 n.e7, .int .u8 n.e8, .int .u8 n.e9] ++ be 32 1 ++ be n.ip 4
def val5 (n : Nl) : List SV := be n.rd 8 ++ [.int .u8 n.e0, .int .u8 n.e1, .int .u8 n.e2, .int .u8 n.e3, .int .u8 n.e4, .int .u8 n.e5, .int .u8 n.e6, .int .u8 n.e7, .int .u8 n.e8, .int .u8 n.e9] ++ be n.tag 4 ++ be n.plen 1 ++ be n.pip 4 ++ be n.gw 4 ++ be n.lab 3
noncomputable def cput_s (val : Nl → List SV) : CSumm := fun args H => match args, H with
 | [.agg [], .ptr 0 0, x], [(0, .cells 111 [.nils, .int .i64 lim, .mp 1]), (1, .mpc [] [])] => match nlOf x with
  | some n => .ite (decide (lim = 40 ∧ OkP n)) (.ret (.tup []) [(0, some (.cells 111 [.qs 2 1 0 (val n).length, .int .i64 40, .mp 1])), (2, some (.seq 5 (val n)))]) .fail
  | none => .fail
 | _, _ => .fail
theorem cput_case {val : Nl → List SV} {args : List SV} {H : HpL} {v : SV} {ups : List (Nat × Option Chunk)} (h : crun (cput_s val args H) = some (v, ups)) :
  ∃ n : Nl, OkP n ∧ args = [.agg [], .ptr 0 0, n.v] ∧ H = [(0, .cells 111 [.nils, .int .i64 40, .mp 1]), (1, .mpc [] [])] ∧ v = .tup [] ∧ ups = [(0, some (.cells 111 [.qs 2 1 0 (val n).length, .int .i64 40, .mp 1])), (2, some (.seq 5 (val n)))] := by
 unfold cput_s at h
 split at h
 · rename_i x lim
   split at h
   · rename_i n hn
     rw [crun_ite, cond_eq_ite] at h
     split at h
     · rename_i hc
       have hc2 : lim = 40 ∧ OkP n := by simpa using hc
       obtain ⟨rfl, hok⟩ := hc2
       cases h
       exact ⟨n, hok, by rw [nlOf_v hn], rfl, rfl, rfl⟩
     · cases h
   · cases h
 · cases h
theorem cput_t1 (kind rd e0 e1 e2 e3 e4 e5 e6 e7 e8 e9 tag mac ip : Int) (hip : Bool) (pip plen gw lab lab2 : Int) : opn κb Tryz.f169 [.agg [], .ptr 0 0, Nl.v ⟨kind, rd, e0, e1, e2, e3, e4, e5, e6, e7, e8, e9, tag, mac, ip, hip, pip, plen, gw, lab, lab2⟩] [(0, .cells 111 [.nils, .int .i64 40, .mp 1]), (1, .mpc [] [])] =
 bif decide (0 ≤ rd ∧ rd < 256 ^ 8 ∧ ((8 : Nat) : Int) ≤ 40 ∧ (40 : Int) ≤ 65536) then (bif decide (18 = 18 ∧ 0 ≤ (IntKind.u64.wrap tag) ∧ (IntKind.u64.wrap tag) < 256 ^ 4 ∧ ((18 + 4 : Nat) : Int) ≤ 40 ∧ (40 : Int) ≤ 65536) then (bif decide (22 = 22 ∧ 0 ≤ (IntKind.u64.wrap lab) ∧ (IntKind.u64.wrap lab) < 256 ^ 3 ∧ ((22 + 3 : Nat) : Int) ≤ 40 ∧ (40 : Int) ≤ 65536) then (.ret (.tup []) [(0, some (.cells 111 [.qs 2 1 0 25, .int .i64 40, .mp 1])), (2, some (.seq 5 (be rd 8 ++ [.int .u8 e0, .int .u8 e1, .int .u8 e2, .int .u8 e3, .int .u8 e4, .int .u8 e5, .int .u8 e6, .int .u8 e7, .int .u8 e8, .int .u8 e9] ++ be (IntKind.u64.wrap tag) 4 ++ be (IntKind.u64.wrap lab) 3)))]) else .fail) else .fail) else .fail := by kernel_rfl
theorem cput_k1 : Known Tryz.prog 169 (cput_s val1) := (openKnown bOk Tryz.func169 rfl).weak (by
 intro args H v ups h
 obtain ⟨n, hok, rfl, rfl, rfl, rfl⟩ := cput_case h
 obtain ⟨kind, rd, e0, e1, e2, e3, e4, e5, e6, e7, e8, e9, tag, mac, ip, hip, pip, plen, gw, lab, lab2⟩ := n
 obtain ⟨rd0, rd1, tag0, tag1, mac0, mac1, ip0, ip1, pip0, pip1, pl0, pl1, gw0, gw1, lab0, lab1, lac0, lac1⟩ := hok
 simp only at rd0 rd1 tag0 tag1 mac0 mac1 ip0 ip1 pip0 pip1 pl0 pl1 gw0 gw1 lab0 lab1 lac0 lac1
 rw [cput_t1]
 have w1 := wu_id tag0 (by omega)
 have w2 := wu_id ip0 (by omega)
 have w3 := wu_id pip0 (by omega)
 have w4 := wu_id pl0 (by omega)
 have w5 := wu_id gw0 (by omega)
 have w6 := wu_id lab0 (by omega)
 have w7 := wu_id lac0 (by omega)
 rw [decide_eq_true (by omega), decide_eq_true (by omega), decide_eq_true (by omega)]
 simp only [w1, w2, w3, w4, w5, w6, w7]
 rfl)
theorem cput_t2 (kind rd e0 e1 e2 e3 e4 e5 e6 e7 e8 e9 tag mac ip : Int) (hip : Bool) (pip plen gw lab lab2 : Int) : opn κb Tryz.f174 [.agg [], .ptr 0 0, Nl.v ⟨kind, rd, e0, e1, e2, e3, e4, e5, e6, e7, e8, e9, tag, mac, ip, hip, pip, plen, gw, lab, lab2⟩] [(0, .cells 111 [.nils, .int .i64 40, .mp 1]), (1, .mpc [] [])] =
 bif decide (0 ≤ rd ∧ rd < 256 ^ 8 ∧ ((8 : Nat) : Int) ≤ 40 ∧ (40 : Int) ≤ 65536) then (bif decide (18 = 18 ∧ 0 ≤ (IntKind.u64.wrap tag) ∧ (IntKind.u64.wrap tag) < 256 ^ 4 ∧ ((18 + 4 : Nat) : Int) ≤ 40 ∧ (40 : Int) ≤ 65536) then (bif decide (23 = 23 ∧ 0 ≤ mac ∧ mac < 256 ^ 6 ∧ ((23 + 6 : Nat) : Int) ≤ 40 ∧ (40 : Int) ≤ 65536) then (bif hip then (bif decide (30 = 30 ∧ 0 ≤ (IntKind.u64.wrap ip) ∧ (IntKind.u64.wrap ip) < 256 ^ 4 ∧ ((30 + 4 : Nat) : Int) ≤ 40 ∧ (40 : Int) ≤ 65536) then (bif decide (34 = 34 ∧ 0 ≤ (IntKind.u64.wrap lab) ∧ (IntKind.u64.wrap lab) < 256 ^ 3 ∧ ((34 + 3 : Nat) : Int) ≤ 40 ∧ (40 : Int) ≤ 65536) then (bif lab2 != 0 then (bif decide (37 = 37 ∧ 0 ≤ (IntKind.u64.wrap lab2) ∧ (IntKind.u64.wrap lab2) < 256 ^ 3 ∧ ((37 + 3 : Nat) : Int) ≤ 40 ∧ (40 : Int) ≤ 65536) then (.ret (.tup []) [(0, some (.cells 111 [.qs 2 1 0 40, .int .i64 40, .mp 1])), (2, some (.seq 5 (be rd 8 ++ [.int .u8 e0, .int .u8 e1, .int .u8 e2, .int .u8 e3, .int .u8 e4, .int .u8 e5, .int .u8 e6, .int .u8 e7, .int .u8 e8, .int .u8 e9] ++ be (IntKind.u64.wrap tag) 4 ++ be 48 1 ++ be mac 6 ++ be 32 1 ++ be (IntKind.u64.wrap ip) 4 ++ be (IntKind.u64.wrap lab) 3 ++ be (IntKind.u64.wrap lab2) 3)))]) else .fail) else .ret (.tup []) [(0, some (.cells 111 [.qs 2 1 0 37, .int .i64 40, .mp 1])), (2, some (.seq 5 (be rd 8 ++ [.int .u8 e0, .int .u8 e1, .int .u8 e2, .int .u8 e3, .int .u8 e4, .int .u8 e5, .int .u8 e6, .int .u8 e7, .int .u8 e8, .int .u8 e9] ++ be (IntKind.u64.wrap tag) 4 ++ be 48 1 ++ be mac 6 ++ be 32 1 ++ be (IntKind.u64.wrap ip) 4 ++ be (IntKind.u64.wrap lab) 3)))]) else .fail) else .fail) else (bif decide (30 = 30 ∧ 0 ≤ (IntKind.u64.wrap lab) ∧ (IntKind.u64.wrap lab) < 256 ^ 3 ∧ ((30 + 3 : Nat) : Int) ≤ 40 ∧ (40 : Int) ≤ 65536) then (bif lab2 != 0 then (bif decide (33 = 33 ∧ 0 ≤ (IntKind.u64.wrap lab2) ∧ (IntKind.u64.wrap lab2) < 256 ^ 3 ∧ ((33 + 3 : Nat) : Int) ≤ 40 ∧ (40 : Int) ≤ 65536) then (.ret (.tup []) [(0, some (.cells 111 [.qs 2 1 0 36, .int .i64 40, .mp 1])), (2, some (.seq 5 (be rd 8 ++ [.int .u8 e0, .int .u8 e1, .int .u8 e2, .int .u8 e3, .int .u8 e4, .int .u8 e5, .int .u8 e6, .int .u8 e7, .int .u8 e8, .int .u8 e9] ++ be (IntKind.u64.wrap tag) 4 ++ be 48 1 ++ be mac 6 ++ be 0 1 ++ be (IntKind.u64.wrap lab) 3 ++ be (IntKind.u64.wrap lab2) 3)))]) else .fail) else .ret (.tup []) [(0, some (.cells 111 [.qs 2 1 0 33, .int .i64 40, .mp 1])), (2, some (.seq 5 (be rd 8 ++ [.int .u8 e0, .int .u8 e1, .int .u8 e2, .int .u8 e3, .int .u8 e4, .int .u8 e5, .int .u8 e6, .int .u8 e7, .int .u8 e8, .int .u8 e9] ++ be (IntKind.u64.wrap tag) 4 ++ be 48 1 ++ be mac 6 ++ be 0 1 ++ be (IntKind.u64.wrap lab) 3)))]) else .fail)) else .fail) else .fail) else .fail := by kernel_rfl
theorem cput_k2 : Known Tryz.prog 174 (cput_s val2) := (openKnown bOk Tryz.func174 rfl).weak (by
 intro args H v ups h
 obtain ⟨n, hok, rfl, rfl, rfl, rfl⟩ := cput_case h
 obtain ⟨kind, rd, e0, e1, e2, e3, e4, e5, e6, e7, e8, e9, tag, mac, ip, hip, pip, plen, gw, lab, lab2⟩ := n
 obtain ⟨rd0, rd1, tag0, tag1, mac0, mac1, ip0, ip1, pip0, pip1, pl0, pl1, gw0, gw1, lab0, lab1, lac0, lac1⟩ := hok
 simp only at rd0 rd1 tag0 tag1 mac0 mac1 ip0 ip1 pip0 pip1 pl0 pl1 gw0 gw1 lab0 lab1 lac0 lac1
 rw [cput_t2]
 have w1 := wu_id tag0 (by omega)
 have w2 := wu_id ip0 (by omega)
 have w3 := wu_id pip0 (by omega)
 have w4 := wu_id pl0 (by omega)
 have w5 := wu_id gw0 (by omega)
 have w6 := wu_id lab0 (by omega)
 have w7 := wu_id lac0 (by omega)
 rw [decide_eq_true (by omega), decide_eq_true (by omega), decide_eq_true (by omega)]
 cases hip with
 | true =>
  rw [cond_true, cond_true, cond_true, cond_true]
  rw [decide_eq_true (by omega), decide_eq_true (by omega)]
  cases hl : (lab2 != 0) with
  | true => rw [cond_true, cond_true, cond_true, decide_eq_true (by omega)]; simp only [val2, hl, w1, w2, w3, w4, w5, w6, w7]; rfl
  | false => simp only [val2, hl, w1, w2, w3, w4, w5, w6, w7]; rfl
 | false =>
  rw [cond_true, cond_true, cond_true, cond_false]
  rw [decide_eq_true (by omega)]
  cases hl : (lab2 != 0) with
  | true => rw [cond_true, cond_true, decide_eq_true (by omega)]; simp only [val2, hl, w1, w2, w3, w4, w5, w6, w7]; rfl
  | false => simp only [val2, hl, w1, w2, w3, w4, w5, w6, w7]; rfl)
theorem cput_t3 (kind rd e0 e1 e2 e3 e4 e5 e6 e7 e8 e9 tag mac ip : Int) (hip : Bool) (pip plen gw lab lab2 : Int) : opn κb Tryz.f180 [.agg [], .ptr 0 0, Nl.v ⟨kind, rd, e0, e1, e2, e3, e4, e5, e6, e7, e8, e9, tag, mac, ip, hip, pip, plen, gw, lab, lab2⟩] [(0, .cells 111 [.nils, .int .i64 40, .mp 1]), (1, .mpc [] [])] =
 bif decide (0 ≤ rd ∧ rd < 256 ^ 8 ∧ ((8 : Nat) : Int) ≤ 40 ∧ (40 : Int) ≤ 65536) then (bif decide (8 = 8 ∧ 0 ≤ (IntKind.u64.wrap tag) ∧ (IntKind.u64.wrap tag) < 256 ^ 4 ∧ ((8 + 4 : Nat) : Int) ≤ 40 ∧ (40 : Int) ≤ 65536) then (bif decide (13 = 13 ∧ 0 ≤ (IntKind.u64.wrap ip) ∧ (IntKind.u64.wrap ip) < 256 ^ 4 ∧ ((13 + 4 : Nat) : Int) ≤ 40 ∧ (40 : Int) ≤ 65536) then (.ret (.tup []) [(0, some (.cells 111 [.qs 2 1 0 17, .int .i64 40, .mp 1])), (2, some (.seq 5 (be rd 8 ++ be (IntKind.u64.wrap tag) 4 ++ be 32 1 ++ be (IntKind.u64.wrap ip) 4)))]) else .fail) else .fail) else .fail := by kernel_rfl
theorem cput_k3 : Known Tryz.prog 180 (cput_s val3) := (openKnown bOk Tryz.func180 rfl).weak (by
 intro args H v ups h
 obtain ⟨n, hok, rfl, rfl, rfl, rfl⟩ := cput_case h
 obtain ⟨kind, rd, e0, e1, e2, e3, e4, e5, e6, e7, e8, e9, tag, mac, ip, hip, pip, plen, gw, lab, lab2⟩ := n
 obtain ⟨rd0, rd1, tag0, tag1, mac0, mac1, ip0, ip1, pip0, pip1, pl0, pl1, gw0, gw1, lab0, lab1, lac0, lac1⟩ := hok
 simp only at rd0 rd1 tag0 tag1 mac0 mac1 ip0 ip1 pip0 pip1 pl0 pl1 gw0 gw1 lab0 lab1 lac0 lac1
 rw [cput_t3]
 have w1 := wu_id tag0 (by omega)
 have w2 := wu_id ip0 (by omega)
 have w3 := wu_id pip0 (by omega)
 have w4 := wu_id pl0 (by omega)
 have w5 := wu_id gw0 (by omega)
 have w6 := wu_id lab0 (by omega)
 have w7 := wu_id lac0 (by omega)
 rw [decide_eq_true (by omega), decide_eq_true (by omega), decide_eq_true (by omega)]
 simp only [w1, w2, w3, w4, w5, w6, w7]
 rfl)
theorem cput_t4 (kind rd e0 e1 e2 e3 e4 e5 e6 e7 e8 e9 tag mac ip : Int) (hip : Bool) (pip plen gw lab lab2 : Int) : opn κb Tryz.f182 [.agg [], .ptr 0 0, Nl.v ⟨kind, rd, e0, e1, e2, e3, e4, e5, e6, e7, e8, e9, tag, mac, ip, hip, pip, plen, gw, lab, lab2⟩] [(0, .cells 111 [.nils, .int .i64 40, .mp 1]), (1, .mpc [] [])] =
 bif decide (0 ≤ rd ∧ rd < 256 ^ 8 ∧ ((8 : Nat) : Int) ≤ 40 ∧ (40 : Int) ≤ 65536) then (bif decide (19 = 19 ∧ 0 ≤ (IntKind.u64.wrap ip) ∧ (IntKind.u64.wrap ip) < 256 ^ 4 ∧ ((19 + 4 : Nat) : Int) ≤ 40 ∧ (40 : Int) ≤ 65536) then (.ret (.tup []) [(0, some (.cells 111 [.qs 2 1 0 23, .int .i64 40, .mp 1])), (2, some (.seq 5 (be rd 8 ++ [.int .u8 e0, .int .u8 e1, .int .u8 e2, .int .u8 e3, .int .u8 e4, .int .u8 e5, .int .u8 e6, .int .u8 e7, .int .u8 e8, .int .u8 e9] ++ be 32 1 ++ be (IntKind.u64.wrap ip) 4)))]) else .fail) else .fail := by kernel_rfl
theorem cput_k4 : Known Tryz.prog 182 (cput_s val4) := (openKnown bOk Tryz.func182 rfl).weak (by
 intro args H v ups h
 obtain ⟨n, hok, rfl, rfl, rfl, rfl⟩ := cput_case h
 obtain ⟨kind, rd, e0, e1, e2, e3, e4, e5, e6, e7, e8, e9, tag, mac, ip, hip, pip, plen, gw, lab, lab2⟩ := n
 obtain ⟨rd0, rd1, tag0, tag1, mac0, mac1, ip0, ip1, pip0, pip1, pl0, pl1, gw0, gw1, lab0, lab1, lac0, lac1⟩ := hok
 simp only at rd0 rd1 tag0 tag1 mac0 mac1 ip0 ip1 pip0 pip1 pl0 pl1 gw0 gw1 lab0 lab1 lac0 lac1
 rw [cput_t4]
 have w1 := wu_id tag0 (by omega)
 have w2 := wu_id ip0 (by omega)
 have w3 := wu_id pip0 (by omega)
 have w4 := wu_id pl0 (by omega)
 have w5 := wu_id gw0 (by omega)
 have w6 := wu_id lab0 (by omega)
 have w7 := wu_id lac0 (by omega)
 rw [decide_eq_true (by omega), decide_eq_true (by omega)]
 simp only [w1, w2, w3, w4, w5, w6, w7]
 rfl)
theorem cput_t5 (kind rd e0 e1 e2 e3 e4 e5 e6 e7 e8 e9 tag mac ip : Int) (hip : Bool) (pip plen gw lab lab2 : Int) : opn κb Tryz.f184 [.agg [], .ptr 0 0, Nl.v ⟨kind, rd, e0, e1, e2, e3, e4, e5, e6, e7, e8, e9, tag, mac, ip, hip, pip, plen, gw, lab, lab2⟩] [(0, .cells 111 [.nils, .int .i64 40, .mp 1]), (1, .mpc [] [])] =
 bif decide (0 ≤ rd ∧ rd < 256 ^ 8 ∧ ((8 : Nat) : Int) ≤ 40 ∧ (40 : Int) ≤ 65536) then (bif decide (18 = 18 ∧ 0 ≤ (IntKind.u64.wrap tag) ∧ (IntKind.u64.wrap tag) < 256 ^ 4 ∧ ((18 + 4 : Nat) : Int) ≤ 40 ∧ (40 : Int) ≤ 65536) then (bif decide (22 = 22 ∧ 0 ≤ (IntKind.u64.wrap plen) ∧ (IntKind.u64.wrap plen) < 256 ^ 1 ∧ ((22 + 1 : Nat) : Int) ≤ 40 ∧ (40 : Int) ≤ 65536) then (bif decide (23 = 23 ∧ 0 ≤ (IntKind.u64.wrap pip) ∧ (IntKind.u64.wrap pip) < 256 ^ 4 ∧ ((23 + 4 : Nat) : Int) ≤ 40 ∧ (40 : Int) ≤ 65536) then (bif decide (27 = 27 ∧ 0 ≤ (IntKind.u64.wrap gw) ∧ (IntKind.u64.wrap gw) < 256 ^ 4 ∧ ((27 + 4 : Nat) : Int) ≤ 40 ∧ (40 : Int) ≤ 65536) then (bif decide (31 = 31 ∧ 0 ≤ (IntKind.u64.wrap lab) ∧ (IntKind.u64.wrap lab) < 256 ^ 3 ∧ ((31 + 3 : Nat) : Int) ≤ 40 ∧ (40 : Int) ≤ 65536) then (.ret (.tup []) [(0, some (.cells 111 [.qs 2 1 0 34, .int .i64 40, .mp 1])), (2, some (.seq 5 (be rd 8 ++ [.int .u8 e0, .int .u8 e1, .int .u8 e2, .int .u8 e3, .int .u8 e4, .int .u8 e5, .int .u8 e6, .int .u8 e7, .int .u8 e8, .int .u8 e9] ++ be (IntKind.u64.wrap tag) 4 ++ be (IntKind.u64.wrap plen) 1 ++ be (IntKind.u64.wrap pip) 4 ++ be (IntKind.u64.wrap gw) 4 ++ be (IntKind.u64.wrap lab) 3)))]) else .fail) else .fail) else .fail) else .fail) else .fail) else .fail := by kernel_rfl
theorem cput_k5 : Known Tryz.prog 184 (cput_s val5) := (openKnown bOk Tryz.func184 rfl).weak (by
 intro args H v ups h
 obtain ⟨n, hok, rfl, rfl, rfl, rfl⟩ := cput_case h
 obtain ⟨kind, rd, e0, e1, e2, e3, e4, e5, e6, e7, e8, e9, tag, mac, ip, hip, pip, plen, gw, lab, lab2⟩ := n
 obtain ⟨rd0, rd1, tag0, tag1, mac0, mac1, ip0, ip1, pip0, pip1, pl0, pl1, gw0, gw1, lab0, lab1, lac0, lac1⟩ := hok
 simp only at rd0 rd1 tag0 tag1 mac0 mac1 ip0 ip1 pip0 pip1 pl0 pl1 gw0 gw1 lab0 lab1 lac0 lac1
 rw [cput_t5]
 have w1 := wu_id tag0 (by omega)
 have w2 := wu_id ip0 (by omega)
 have w3 := wu_id pip0 (by omega)
 have w4 := wu_id pl0 (by omega)
 have w5 := wu_id gw0 (by omega)
 have w6 := wu_id lab0 (by omega)
 have w7 := wu_id lac0 (by omega)
 rw [decide_eq_true (by omega), decide_eq_true (by omega), decide_eq_true (by omega), decide_eq_true (by omega), decide_eq_true (by omega), decide_eq_true (by omega)]
 simp only [w1, w2, w3, w4, w5, w6, w7]
 rfl)
end Go.Proofs.YtnlmhpancboddaaGreat
/- Routes: their bytes. -/
namespace Go.Proofs.YtnlmhpancboddaaGreat
open Go.Am
set_option maxRecDepth 100000
noncomputable abbrev κc := tbl [(82, check_s), (169, cput_s val1), (174, cput_s val2), (180, cput_s val3), (182, cput_s val4), (184, cput_s val5), (28, out_s)]
theorem cOk : KOk Tryz.prog κc := tbl_cons ncheck_k (tbl_cons cput_k1 (tbl_cons cput_k2 (tbl_cons cput_k3 (tbl_cons cput_k4 (tbl_cons cput_k5 (tbl_cons out_k ok0))))))
def encL (val : Nl → List SV) (n : Nl) : List SV := [.int .u8 (IntKind.u8.wrap n.kind), .int .u8 (IntKind.u8.wrap ((val n).length : Int))] ++ val n
noncomputable def encT (val : Nl → List SV) (n : Nl) : CTree :=
 bif decide ((40 : Int) = 40 ∧ OkP n) then bif decide ((val n).length = (val n).length ∧ (val n).length ≤ 65536) then
  (bif decide ((val n).length = (val n).length) then
   (bif decide (2 + (val n).length ≤ 9223372036854775807) && decide ((2 + (val n).length) * 1 ≤ 140737488355328) then .ret (.qs 0 1 0 (2 + (val n).length)) [(0, some (.seq 5 (encL val n)))] else .fail)
   else bif decide (0 + (val n).length ≤ (val n).length) then
    (bif decide (2 + (((val n).drop 0).take (val n).length).length ≤ 9223372036854775807) && decide ((2 + (((val n).drop 0).take (val n).length).length) * 1 ≤ 140737488355328) then .ret (.qs 0 1 0 (2 + (((val n).drop 0).take (val n).length).length)) [(0, some (.seq 5 ([.int .u8 (IntKind.u8.wrap n.kind), .int .u8 (IntKind.u8.wrap ((val n).length : Int))] ++ (((val n).drop 0).take (val n).length))))] else .fail) else .fail)
  else .fail else .fail
theorem val_len (n : Nl) : (val1 n).length ≤ 40 ∧ (val2 n).length ≤ 40 ∧ (val3 n).length ≤ 40 ∧ (val4 n).length ≤ 40 ∧ (val5 n).length ≤ 40 := by
 refine ⟨by simp [val1, be_len], ?_, by simp [val3, be_len], by simp [val4, be_len], by simp [val5, be_len]⟩
 cases h : n.hip <;> cases h2 : (n.lab2 != 0) <;> simp [val2, be_len, h, h2]
theorem encT_ok {val : Nl → List SV} {n : Nl} (hl : (val n).length ≤ 40) (hok : OkP n) : crun (encT val n) = some (.qs 0 1 0 (encL val n).length, [(0, some (.seq 5 (encL val n)))]) := by
 unfold encT
 rw [decide_eq_true (show (40 : Int) = 40 ∧ OkP n from ⟨rfl, hok⟩), decide_eq_true (show _ ∧ (val n).length ≤ 65536 from ⟨rfl, by omega⟩), decide_eq_true rfl, decide_eq_true (by omega), decide_eq_true (by omega)]
 simp [crun, encL, Nat.add_comm]; omega
theorem enc_t1 (kind rd e0 e1 e2 e3 e4 e5 e6 e7 e8 e9 tag mac ip : Int) (hip : Bool) (pip plen gw lab lab2 : Int) : opn κc Tryz.f106 [Nl.v ⟨kind, rd, e0, e1, e2, e3, e4, e5, e6, e7, e8, e9, tag, mac, ip, hip, pip, plen, gw, lab, lab2⟩, .iface 215 (.agg [])] [] = encT val1 ⟨kind, rd, e0, e1, e2, e3, e4, e5, e6, e7, e8, e9, tag, mac, ip, hip, pip, plen, gw, lab, lab2⟩ := by kernel_rfl
theorem enc_t2 (kind rd e0 e1 e2 e3 e4 e5 e6 e7 e8 e9 tag mac ip : Int) (hip : Bool) (pip plen gw lab lab2 : Int) : opn κc Tryz.f106 [Nl.v ⟨kind, rd, e0, e1, e2, e3, e4, e5, e6, e7, e8, e9, tag, mac, ip, hip, pip, plen, gw, lab, lab2⟩, .iface 216 (.agg [])] [] = encT val2 ⟨kind, rd, e0, e1, e2, e3, e4, e5, e6, e7, e8, e9, tag, mac, ip, hip, pip, plen, gw, lab, lab2⟩ := by kernel_rfl
theorem enc_t3 (kind rd e0 e1 e2 e3 e4 e5 e6 e7 e8 e9 tag mac ip : Int) (hip : Bool) (pip plen gw lab lab2 : Int) : opn κc Tryz.f106 [Nl.v ⟨kind, rd, e0, e1, e2, e3, e4, e5, e6, e7, e8, e9, tag, mac, ip, hip, pip, plen, gw, lab, lab2⟩, .iface 217 (.agg [])] [] = encT val3 ⟨kind, rd, e0, e1, e2, e3, e4, e5, e6, e7, e8, e9, tag, mac, ip, hip, pip, plen, gw, lab, lab2⟩ := by kernel_rfl
theorem enc_t4 (kind rd e0 e1 e2 e3 e4 e5 e6 e7 e8 e9 tag mac ip : Int) (hip : Bool) (pip plen gw lab lab2 : Int) : opn κc Tryz.f106 [Nl.v ⟨kind, rd, e0, e1, e2, e3, e4, e5, e6, e7, e8, e9, tag, mac, ip, hip, pip, plen, gw, lab, lab2⟩, .iface 218 (.agg [])] [] = encT val4 ⟨kind, rd, e0, e1, e2, e3, e4, e5, e6, e7, e8, e9, tag, mac, ip, hip, pip, plen, gw, lab, lab2⟩ := by kernel_rfl
theorem enc_t5 (kind rd e0 e1 e2 e3 e4 e5 e6 e7 e8 e9 tag mac ip : Int) (hip : Bool) (pip plen gw lab lab2 : Int) : opn κc Tryz.f106 [Nl.v ⟨kind, rd, e0, e1, e2, e3, e4, e5, e6, e7, e8, e9, tag, mac, ip, hip, pip, plen, gw, lab, lab2⟩, .iface 219 (.agg [])] [] = encT val5 ⟨kind, rd, e0, e1, e2, e3, e4, e5, e6, e7, e8, e9, tag, mac, ip, hip, pip, plen, gw, lab, lab2⟩ := by kernel_rfl
def valOf (t : Nat) : Option (Nl → List SV) := bif Nat.beq t 215 then some val1 else bif Nat.beq t 216 then some val2 else bif Nat.beq t 217 then some val3 else bif Nat.beq t 218 then some val4 else bif Nat.beq t 219 then some val5 else none
noncomputable def encode_s : CSumm := fun args H => match args, H with
 | [x, .iface t (.agg [])], [] => match nlOf x, valOf t with
  | some n, some val => .ite (decide (OkP n)) (.ret (.qs 0 1 0 (encL val n).length) [(0, some (.seq 5 (encL val n)))]) .fail
  | _, _ => .fail
 | _, _ => .fail
theorem encode_k : Known Tryz.prog 106 encode_s := (openKnown cOk Tryz.func106 rfl).weak (by
 intro args H v ups h
 unfold encode_s at h
 split at h
 · rename_i x t
   split at h
   · rename_i n val hn hv
     rw [crun_ite, cond_eq_ite] at h
     split at h
     · rename_i hc
       have hok : OkP n := by simpa using hc
       rw [nlOf_v hn]
       obtain ⟨kind, rd, e0, e1, e2, e3, e4, e5, e6, e7, e8, e9, tag, mac, ip, hip, pip, plen, gw, lab, lab2⟩ := n
       obtain ⟨l1, l2, l3, l4, l5⟩ := val_len ⟨kind, rd, e0, e1, e2, e3, e4, e5, e6, e7, e8, e9, tag, mac, ip, hip, pip, plen, gw, lab, lab2⟩
       unfold valOf at hv
       cases h1 : Nat.beq t 215 with
       | true => rw [h1] at hv; cases hv; cases Nat.eq_of_beq_eq_true h1; rw [enc_t1, encT_ok l1 hok]; exact h
       | false =>
       cases h2 : Nat.beq t 216 with
       | true => rw [h1, h2] at hv; cases hv; cases Nat.eq_of_beq_eq_true h2; rw [enc_t2, encT_ok l2 hok]; exact h
       | false =>
       cases h3 : Nat.beq t 217 with
       | true => rw [h1, h2, h3] at hv; cases hv; cases Nat.eq_of_beq_eq_true h3; rw [enc_t3, encT_ok l3 hok]; exact h
       | false =>
       cases h4 : Nat.beq t 218 with
       | true => rw [h1, h2, h3, h4] at hv; cases hv; cases Nat.eq_of_beq_eq_true h4; rw [enc_t4, encT_ok l4 hok]; exact h
       | false =>
       cases h5 : Nat.beq t 219 with
       | true => rw [h1, h2, h3, h4, h5] at hv; cases hv; cases Nat.eq_of_beq_eq_true h5; rw [enc_t5, encT_ok l5 hok]; exact h
       | false => rw [h1, h2, h3, h4, h5] at hv; cases hv
     · cases h
   · cases h
 · cases h)
def nb (n : Nl) : List SV := bif n.kind == 1 then encL val1 n else bif n.kind == 2 then encL val2 n else bif n.kind == 3 then encL val3 n else bif n.kind == 4 then encL val4 n else encL val5 n
end Go.Proofs.YtnlmhpancboddaaGreat
/- The reference's numbers. -/
namespace Go.Proofs.YtnlmhpancboddaaGreat
open Go.Am
set_option maxRecDepth 100000
end Go.Proofs.YtnlmhpancboddaaGreat
/- Routes: their bytes by the reference. -/
namespace Go.Proofs.YtnlmhpancboddaaGreat
open Go.Am
set_option maxRecDepth 100000
end Go.Proofs.YtnlmhpancboddaaGreat
/- Readers: numbers. -/
namespace Go.Proofs.YtnlmhpancboddaaGreat
open Go.Am
set_option maxRecDepth 100000
noncomputable def dec (p : Prop) : Bool := (Classical.propDecidable p).decide
theorem dec_iff {p : Prop} : dec p = true ↔ p := by unfold dec; exact @decide_eq_true_iff _ (Classical.propDecidable _)
def dg (es : List SV) (i : Nat) : Int := asI (es.getD i .junk)
def tkN (es : List SV) (s : Nat) : Nat → Int
 | 0 => 0
 | k + 1 => tkN es s k * 256 + dg es (s + k)
def okBy (es : List SV) : Prop := ∀ k : Nat, 0 ≤ dg es k ∧ dg es k ≤ 255
theorem tkN_rng {es : List SV} (h : okBy es) (s : Nat) : ∀ k, 0 ≤ tkN es s k ∧ tkN es s k < 256 ^ k
 | 0 => by simp [tkN]
 | k + 1 => by
  obtain ⟨h1, h2⟩ := tkN_rng h s k
  obtain ⟨h3, h4⟩ := h (s + k)
  rw [tkN, Int.pow_succ]
  generalize (256 : Int) ^ k = p at *
  omega
def accS (acc x : Int) : Int := IntKind.u64.wrap ((BitVec.ofInt IntKind.u64.bits (IntKind.u64.wrap (acc * 2 ^ min (8 : Int).toNat IntKind.u64.bits)) ||| BitVec.ofInt IntKind.u64.bits (IntKind.u64.wrap x)).toNat : Int)
noncomputable def body91 : Code := Tryz.f69.body.getD .skip
noncomputable def c91 : Code := (loopAt 4 body91).getD .skip
noncomputable def numLs : CSumm
 | [.nils, .int .i64 n, .int .i64 i, .int .u64 a], [] => .ite (decide (n ≤ i)) (.ret (.tup [.int .i64 2, .int .u64 a]) []) .fail
 | [.qs 0 1 l n, .int .i64 m, .int .i64 i, .int .u64 a], [(0, .seq 5 es)] => .ite (dec (m = n ∧ 0 ≤ i ∧ i ≤ n ∧ n ≤ 8 ∧ l + n ≤ es.length ∧ okBy es ∧ a = tkN es l i.toNat)) (.ret (.tup [.int .i64 2, .int .u64 (tkN es l n)]) []) .fail
 | _, _ => .fail
def numM : List SV → HpL → Nat
 | [_, .int _ n, .int _ i, _], _ => (n - i).toNat
 | _, _ => 0
noncomputable def e91 : LEnt := { ins := [16, 17, 18, 7], outs := [7], keep := [], size := 29, code := c91, s := numLs }
noncomputable abbrev κ0 := openT Tryz.prog (tbl []) 300 5
noncomputable abbrev ι0 : Nat → Bool := fun g => inl (tbl []) g && hasBody Tryz.prog g
noncomputable def nextN (N : Nat) (es : List SV) (l n : Nat) (m i a : Int) : CTree :=
 bif Nat.blt (m - i).toNat N then bif dec (m = n ∧ 0 ≤ i ∧ i ≤ n ∧ n ≤ 8 ∧ l + n ≤ es.length ∧ okBy es ∧ a = tkN es l i.toNat) then .ret (.tup [.int .i64 2, .int .u64 (tkN es l n)]) [] else .fail else .fail
theorem round91 (N : Nat) (es : List SV) (l n : Nat) (m i a : Int) : loopOnce Tryz.prog κ0 ι0 (ltab []) true 300 e91 { e91 with s := boundT numM numLs N } c91 [.qs 0 1 l n, .int .i64 m, .int .i64 i, .int .u64 a] [(0, .seq 5 es)] =
 bif decide (i < m) then bif inB i n then bif decide (l + i.toNat < es.length) then nextN N es l n m (IntKind.i64.wrap (i + 1)) (accS a (dg es (l + i.toNat))) else .fail else .fail else .ret (.tup [.int .i64 2, .int .u64 a]) [] := by kernel_rfl
theorem round91n (N : Nat) (n i a : Int) : loopOnce Tryz.prog κ0 ι0 (ltab []) true 300 e91 { e91 with s := boundT numM numLs N } c91 [.nils, .int .i64 n, .int .i64 i, .int .u64 a] [] = bif decide (i < n) then .fail else .ret (.tup [.int .i64 2, .int .u64 a]) [] := by kernel_rfl
theorem u64_id {n : Int} (h0 : 0 ≤ n) (h1 : n < 18446744073709551616) : IntKind.u64.wrap n = n := by
 simp [IntKind.wrap, IntKind.bits, IntKind.signed]; omega
theorem acc_eq {a x : Int} (h0 : 0 ≤ a) (h1 : a < 72057594037927936) (h2 : 0 ≤ x) (h3 : x ≤ 255) : accS a x = a * 256 + x := by
 obtain ⟨A, rfl⟩ := Int.eq_ofNat_of_zero_le h0
 obtain ⟨X, rfl⟩ := Int.eq_ofNat_of_zero_le h2
 unfold accS
 rw [show (2 : Int) ^ min (8 : Int).toNat IntKind.u64.bits = 256 by decide, u64_id (n := (A : Int) * 256) (by omega) (by omega), u64_id (n := (X : Int)) (by omega) (by omega)]
 have e1 : BitVec.ofInt IntKind.u64.bits ((A : Int) * 256) = BitVec.ofNat 64 (A * 256) := by
  rw [show ((A : Int) * 256) = ((A * 256 : Nat) : Int) by omega]; exact BitVec.ofInt_natCast 64 _
 have e2 : BitVec.ofInt IntKind.u64.bits (X : Int) = BitVec.ofNat 64 X := BitVec.ofInt_natCast 64 _
 rw [e1, e2]
 have e3 : (BitVec.ofNat 64 (A * 256) ||| BitVec.ofNat 64 X).toNat = A * 256 + X := by
  rw [BitVec.toNat_or, BitVec.toNat_ofNat, BitVec.toNat_ofNat, Nat.mod_eq_of_lt (by omega), Nat.mod_eq_of_lt (by omega)]
  have := Nat.shiftLeft_add_eq_or_of_lt (a := A) (b := X) (i := 8) (by omega)
  rw [Nat.shiftLeft_eq] at this
  exact this.symm
 refine (congrArg (fun k : Nat => IntKind.u64.wrap (k : Int)) e3).trans ?_
 rw [u64_id (by omega) (by omega)]
 omega
theorem num_valid : ValidL Tryz.prog e91 := loop_valid (κ := κ0) (ι := ι0) (T := ltab []) (sp := true) (fuel := 300) (c := c91) (μ := numM) (openT_ok noNumTry mixTry ok0 300 5) mixTry ltab_nil (show fillC (ltab []) c91 = c91 by kernel_rfl) (by
 intro N args H r hb hr0
 have hr' : crun (numLs args H) = some r := hr0
 unfold numLs at hr'
 split at hr'
 · rename_i n i a
   rw [crun_ite] at hr'
   cases hc : decide (n ≤ i) with
   | false => rw [hc] at hr'; cases hr'
   | true =>
    rw [hc] at hr'
    rw [← hr']
    have := of_decide_eq_true hc
    refine (congrArg crun (round91n N n i a)).trans ?_
    rw [decide_eq_false (by omega)]; rfl
 · rename_i l n m i a es
   rw [crun_ite] at hr'
   cases hc : dec (m = n ∧ 0 ≤ i ∧ i ≤ n ∧ n ≤ 8 ∧ l + n ≤ es.length ∧ okBy es ∧ a = tkN es l i.toNat) with
   | false => rw [hc] at hr'; cases hr'
   | true =>
    rw [hc] at hr'
    obtain ⟨rfl, h0, h1, h2, h3, h4, rfl⟩ := dec_iff.1 hc
    have hb' : ((n : Int) - i).toNat < N + 1 := by
     have : Nat.blt ((n : Int) - i).toNat (N + 1) = true := hb
     rwa [Nat.blt_eq] at this
    rw [← hr']
    refine (congrArg crun (round91 N es l n n i _)).trans ?_
    by_cases hlt : i < n
    · have hw : IntKind.i64.wrap (i + 1) = i + 1 := w64_id (by omega) (by omega)
      have hin : inB i n = true := by unfold inB; simp; omega
      obtain ⟨t0, t1⟩ := tkN_rng h4 l i.toNat
      obtain ⟨d0, d1⟩ := h4 (l + i.toNat)
      have hp : (256 : Int) ^ i.toNat ≤ 72057594037927936 := by
       have : i.toNat ≤ 7 := by omega
       calc (256 : Int) ^ i.toNat ≤ 256 ^ 7 := by exact_mod_cast Nat.pow_le_pow_right (by decide) this
        _ = 72057594037927936 := by decide
      have hbb : Nat.blt ((n : Int) - (i + 1)).toNat N = true := by rw [Nat.blt_eq]; omega
      rw [decide_eq_true hlt, hin, decide_eq_true (by omega), hw, acc_eq t0 (by omega) d0 d1]
      simp only [cond_true]
      unfold nextN
      rw [hbb, dec_iff.2 ⟨rfl, by omega, by omega, h2, h3, h4, by rw [show (i + 1).toNat = i.toNat + 1 by omega, tkN]⟩]
      rfl
    · have : i.toNat = n := by omega
      rw [decide_eq_false hlt, this]; rfl
 · cases hr')
noncomputable abbrev T91 : LTab := ltab [("n", e91)]
noncomputable def m91 : Code := markC [(4, "n")] body91
theorem fill91 : Tryz.f69.body = some (fillC T91 m91) := by kernel_rfl
noncomputable abbrev num_b : CSumm := bodyCL Tryz.prog κ0 ι0 T91 true 300 Tryz.f69 m91
structure Rd where
 (at_ end_ err fat : Int)
def rH (r : Rd) (n : Nat) (es : List SV) : HpL := [(0, .cells 157 [.int .i64 r.at_, .int .i64 r.end_, .qs 1 1 0 n, .int .i64 r.err, .int .i64 r.fat, .bool true]), (1, .seq 5 es)]
end Go.Proofs.YtnlmhpancboddaaGreat
