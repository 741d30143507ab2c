/- Routes: their values are put. -/
import Derived.Test.YtdgnhaacdpmclaaGreatPart1
import Derived.Test.YtdgnhaacdpmclaaGreatPart3
set_option linter.unusedVariables false
set_option linter.unusedSimpArgs false
namespace Go.Proofs.YtdgnhaacdpmclaaGreat
open Go.Am
set_option maxRecDepth 100000
abbrev κb := tbl [(79, check_s), (82, wr_s 1), (83, wr_s 2), (89, wr_s 3), (88, wr_s 4), (145, wr_s 6), (140, wr_s 8), (84, bytes_s), (36, out_s)]
theorem bOk : KOk Tryz.prog κb := tbl_cons ncheck_k (tbl_cons u8_k (tbl_cons u16_k (tbl_cons u24_k (tbl_cons u32_k (tbl_cons u48_k (tbl_cons u64_k (tbl_cons bytes_k (tbl_cons out_k ok0))))))))
structure OkP (n : Nl) : Prop where
 (rd0 : 0 ≤ n.rd) (rd1 : n.rd < 18446744073709551616) (tag0 : 0 ≤ n.tag) (tag1 : n.tag < 4294967296) (mac0 : 0 ≤ n.mac) (mac1 : n.mac < 281474976710656) (ip0 : 0 ≤ n.ip) (ip1 : n.ip < 4294967296) (pip0 : 0 ≤ n.pip) (pip1 : n.pip < 4294967296) (pl0 : 0 ≤ n.plen) (pl1 : n.plen < 256) (gw0 : 0 ≤ n.gw) (gw1 : n.gw < 4294967296) (lab0 : 0 ≤ n.lab) (lab1 : n.lab < 16777216) (lac0 : 0 ≤ n.lab2) (lac1 : n.lab2 < 16777216)
noncomputable instance okPDec (n : Nl) : Decidable (OkP n) := Classical.propDecidable _
theorem wu_id {n : Int} (h1 : 0 ≤ n) (h2 : n < 18446744073709551616) : IntKind.u64.wrap n = n := by
 simp [IntKind.wrap, IntKind.bits, IntKind.signed]; omega
def val1 (n : Nl) : List SV := be n.rd 8 ++ [.int .u8 n.e0, .int .u8 n.e1, .int .u8 n.e2, .int .u8 n.e3, .int .u8 n.e4, .int .u8 n.e5, .int .u8 n.e6, .int .u8 n.e7, .int .u8 n.e8, .int .u8 n.e9] ++ be n.tag 4 ++ be n.lab 3
def val2 (n : Nl) : List SV := be n.rd 8 ++ [.int .u8 n.e0, .int .u8 n.e1, .int .u8 n.e2, .int .u8 n.e3, .int .u8 n.e4, .int .u8 n.e5, .int .u8 n.e6, .int .u8 n.e7, .int .u8 n.e8, .int .u8 n.e9] ++ be n.tag 4 ++ be 48 1 ++ be n.mac 6 ++ (bif n.hip then be 32 1 ++ be n.ip 4 else be 0 1) ++ be n.lab 3 ++ (bif n.lab2 != 0 then be n.lab2 3 else [])
def val3 (n : Nl) : List SV := be n.rd 8 ++ be n.tag 4 ++ be 32 1 ++ be n.ip 4
def val4 (n : Nl) : List SV := be n.rd 8 ++ [.int .u8 n.e0, .int .u8 n.e1, .int .u8 n.e2, .int .u8 n.e3, .int .u8 n.e4, .int .u8 n.e5, .int .u8 n.e6, .int .u8 n.e7, .int .u8 n.e8, .int .u8 n.e9] ++ be 32 1 ++ be n.ip 4
def val5 (n : Nl) : List SV := be n.rd 8 ++ [.int .u8 n.e0, .int .u8 n.e1, .int .u8 n.e2, .int .u8 n.e3, .int .u8 n.e4, .int .u8 n.e5, .int .u8 n.e6, .int .u8 n.e7, .int .u8 n.e8, .int .u8 n.e9] ++ be n.tag 4 ++ be n.plen 1 ++ be n.pip 4 ++ be n.gw 4 ++ be n.lab 3
noncomputable def cput_s (val : Nl → List SV) : CSumm := fun args H => match args, H with
 | [.agg [], .ptr 0 0, x], [(0, .cells 133 [.nils, .int .i64 lim, .mp 1]), (1, .mpc [] [])] => match nlOf x with
  | some n => .ite (decide (lim = 40 ∧ OkP n)) (.ret (.tup []) [(0, some (.cells 133 [.qs 2 1 0 (val n).length, .int .i64 40, .mp 1])), (2, some (.seq 5 (val n)))]) .fail
  | none => .fail
 | _, _ => .fail
theorem cput_case {val : Nl → List SV} {args : List SV} {H : HpL} {v : SV} {ups : List (Nat × Option Chunk)} (h : crun (cput_s val args H) = some (v, ups)) :
  ∃ n : Nl, OkP n ∧ args = [.agg [], .ptr 0 0, n.v] ∧ H = [(0, .cells 133 [.nils, .int .i64 40, .mp 1]), (1, .mpc [] [])] ∧ v = .tup [] ∧ ups = [(0, some (.cells 133 [.qs 2 1 0 (val n).length, .int .i64 40, .mp 1])), (2, some (.seq 5 (val n)))] := by
 unfold cput_s at h
 split at h
 · rename_i x lim
   split at h
   · rename_i n hn
     rw [crun_ite, cond_eq_ite] at h
     split at h
     · rename_i hc
       have hc2 : lim = 40 ∧ OkP n := by simpa using hc
       obtain ⟨rfl, hok⟩ := hc2
       cases h
       exact ⟨n, hok, by rw [nlOf_v hn], rfl, rfl, rfl⟩
     · cases h
   · cases h
 · cases h
theorem cput_t1 (kind rd e0 e1 e2 e3 e4 e5 e6 e7 e8 e9 tag mac ip : Int) (hip : Bool) (pip plen gw lab lab2 : Int) : opn κb Tryz.f137 [.agg [], .ptr 0 0, Nl.v ⟨kind, rd, e0, e1, e2, e3, e4, e5, e6, e7, e8, e9, tag, mac, ip, hip, pip, plen, gw, lab, lab2⟩] [(0, .cells 133 [.nils, .int .i64 40, .mp 1]), (1, .mpc [] [])] =
 bif decide (0 ≤ rd ∧ rd < 256 ^ 8 ∧ ((8 : Nat) : Int) ≤ 40 ∧ (40 : Int) ≤ 65536) then (bif decide (18 = 18 ∧ 0 ≤ (IntKind.u64.wrap tag) ∧ (IntKind.u64.wrap tag) < 256 ^ 4 ∧ ((18 + 4 : Nat) : Int) ≤ 40 ∧ (40 : Int) ≤ 65536) then (bif decide (22 = 22 ∧ 0 ≤ (IntKind.u64.wrap lab) ∧ (IntKind.u64.wrap lab) < 256 ^ 3 ∧ ((22 + 3 : Nat) : Int) ≤ 40 ∧ (40 : Int) ≤ 65536) then (.ret (.tup []) [(0, some (.cells 133 [.qs 2 1 0 25, .int .i64 40, .mp 1])), (2, some (.seq 5 (be rd 8 ++ [.int .u8 e0, .int .u8 e1, .int .u8 e2, .int .u8 e3, .int .u8 e4, .int .u8 e5, .int .u8 e6, .int .u8 e7, .int .u8 e8, .int .u8 e9] ++ be (IntKind.u64.wrap tag) 4 ++ be (IntKind.u64.wrap lab) 3)))]) else .fail) else .fail) else .fail := by kernel_rfl
theorem cput_k1 : Known Tryz.prog 137 (cput_s val1) := (openKnown bOk Tryz.func137 rfl).weak (by
 intro args H v ups h
 obtain ⟨n, hok, rfl, rfl, rfl, rfl⟩ := cput_case h
 obtain ⟨kind, rd, e0, e1, e2, e3, e4, e5, e6, e7, e8, e9, tag, mac, ip, hip, pip, plen, gw, lab, lab2⟩ := n
 obtain ⟨rd0, rd1, tag0, tag1, mac0, mac1, ip0, ip1, pip0, pip1, pl0, pl1, gw0, gw1, lab0, lab1, lac0, lac1⟩ := hok
 simp only at rd0 rd1 tag0 tag1 mac0 mac1 ip0 ip1 pip0 pip1 pl0 pl1 gw0 gw1 lab0 lab1 lac0 lac1
 rw [cput_t1]
 have w1 := wu_id tag0 (by omega)
 have w2 := wu_id ip0 (by omega)
 have w3 := wu_id pip0 (by omega)
 have w4 := wu_id pl0 (by omega)
 have w5 := wu_id gw0 (by omega)
 have w6 := wu_id lab0 (by omega)
 have w7 := wu_id lac0 (by omega)
 rw [decide_eq_true (by omega), decide_eq_true (by omega), decide_eq_true (by omega)]
 simp only [w1, w2, w3, w4, w5, w6, w7]
 rfl)
theorem cput_t2 (kind rd e0 e1 e2 e3 e4 e5 e6 e7 e8 e9 tag mac ip : Int) (hip : Bool) (pip plen gw lab lab2 : Int) : opn κb Tryz.f142 [.agg [], .ptr 0 0, Nl.v ⟨kind, rd, e0, e1, e2, e3, e4, e5, e6, e7, e8, e9, tag, mac, ip, hip, pip, plen, gw, lab, lab2⟩] [(0, .cells 133 [.nils, .int .i64 40, .mp 1]), (1, .mpc [] [])] =
 bif decide (0 ≤ rd ∧ rd < 256 ^ 8 ∧ ((8 : Nat) : Int) ≤ 40 ∧ (40 : Int) ≤ 65536) then (bif decide (18 = 18 ∧ 0 ≤ (IntKind.u64.wrap tag) ∧ (IntKind.u64.wrap tag) < 256 ^ 4 ∧ ((18 + 4 : Nat) : Int) ≤ 40 ∧ (40 : Int) ≤ 65536) then (bif decide (23 = 23 ∧ 0 ≤ mac ∧ mac < 256 ^ 6 ∧ ((23 + 6 : Nat) : Int) ≤ 40 ∧ (40 : Int) ≤ 65536) then (bif hip then (bif decide (30 = 30 ∧ 0 ≤ (IntKind.u64.wrap ip) ∧ (IntKind.u64.wrap ip) < 256 ^ 4 ∧ ((30 + 4 : Nat) : Int) ≤ 40 ∧ (40 : Int) ≤ 65536) then (bif decide (34 = 34 ∧ 0 ≤ (IntKind.u64.wrap lab) ∧ (IntKind.u64.wrap lab) < 256 ^ 3 ∧ ((34 + 3 : Nat) : Int) ≤ 40 ∧ (40 : Int) ≤ 65536) then (bif lab2 != 0 then (bif decide (37 = 37 ∧ 0 ≤ (IntKind.u64.wrap lab2) ∧ (IntKind.u64.wrap lab2) < 256 ^ 3 ∧ ((37 + 3 : Nat) : Int) ≤ 40 ∧ (40 : Int) ≤ 65536) then (.ret (.tup []) [(0, some (.cells 133 [.qs 2 1 0 40, .int .i64 40, .mp 1])), (2, some (.seq 5 (be rd 8 ++ [.int .u8 e0, .int .u8 e1, .int .u8 e2, .int .u8 e3, .int .u8 e4, .int .u8 e5, .int .u8 e6, .int .u8 e7, .int .u8 e8, .int .u8 e9] ++ be (IntKind.u64.wrap tag) 4 ++ be 48 1 ++ be mac 6 ++ be 32 1 ++ be (IntKind.u64.wrap ip) 4 ++ be (IntKind.u64.wrap lab) 3 ++ be (IntKind.u64.wrap lab2) 3)))]) else .fail) else .ret (.tup []) [(0, some (.cells 133 [.qs 2 1 0 37, .int .i64 40, .mp 1])), (2, some (.seq 5 (be rd 8 ++ [.int .u8 e0, .int .u8 e1, .int .u8 e2, .int .u8 e3, .int .u8 e4, .int .u8 e5, .int .u8 e6, .int .u8 e7, .int .u8 e8, .int .u8 e9] ++ be (IntKind.u64.wrap tag) 4 ++ be 48 1 ++ be mac 6 ++ be 32 1 ++ be (IntKind.u64.wrap ip) 4 ++ be (IntKind.u64.wrap lab) 3)))]) else .fail) else .fail) else (bif decide (30 = 30 ∧ 0 ≤ (IntKind.u64.wrap lab) ∧ (IntKind.u64.wrap lab) < 256 ^ 3 ∧ ((30 + 3 : Nat) : Int) ≤ 40 ∧ (40 : Int) ≤ 65536) then (bif lab2 != 0 then (bif decide (33 = 33 ∧ 0 ≤ (IntKind.u64.wrap lab2) ∧ (IntKind.u64.wrap lab2) < 256 ^ 3 ∧ ((33 + 3 : Nat) : Int) ≤ 40 ∧ (40 : Int) ≤ 65536) then (.ret (.tup []) [(0, some (.cells 133 [.qs 2 1 0 36, .int .i64 40, .mp 1])), (2, some (.seq 5 (be rd 8 ++ [.int .u8 e0, .int .u8 e1, .int .u8 e2, .int .u8 e3, .int .u8 e4, .int .u8 e5, .int .u8 e6, .int .u8 e7, .int .u8 e8, .int .u8 e9] ++ be (IntKind.u64.wrap tag) 4 ++ be 48 1 ++ be mac 6 ++ be 0 1 ++ be (IntKind.u64.wrap lab) 3 ++ be (IntKind.u64.wrap lab2) 3)))]) else .fail) else .ret (.tup []) [(0, some (.cells 133 [.qs 2 1 0 33, .int .i64 40, .mp 1])), (2, some (.seq 5 (be rd 8 ++ [.int .u8 e0, .int .u8 e1, .int .u8 e2, .int .u8 e3, .int .u8 e4, .int .u8 e5, .int .u8 e6, .int .u8 e7, .int .u8 e8, .int .u8 e9] ++ be (IntKind.u64.wrap tag) 4 ++ be 48 1 ++ be mac 6 ++ be 0 1 ++ be (IntKind.u64.wrap lab) 3)))]) else .fail)) else .fail) else .fail) else .fail := by kernel_rfl
theorem cput_k2 : Known Tryz.prog 142 (cput_s val2) := (openKnown bOk Tryz.func142 rfl).weak (by
 intro args H v ups h
 obtain ⟨n, hok, rfl, rfl, rfl, rfl⟩ := cput_case h
 obtain ⟨kind, rd, e0, e1, e2, e3, e4, e5, e6, e7, e8, e9, tag, mac, ip, hip, pip, plen, gw, lab, lab2⟩ := n
 obtain ⟨rd0, rd1, tag0, tag1, mac0, mac1, ip0, ip1, pip0, pip1, pl0, pl1, gw0, gw1, lab0, lab1, lac0, lac1⟩ := hok
 simp only at rd0 rd1 tag0 tag1 mac0 mac1 ip0 ip1 pip0 pip1 pl0 pl1 gw0 gw1 lab0 lab1 lac0 lac1
 rw [cput_t2]
 have w1 := wu_id tag0 (by omega)
 have w2 := wu_id ip0 (by omega)
 have w3 := wu_id pip0 (by omega)
 have w4 := wu_id pl0 (by omega)
 have w5 := wu_id gw0 (by omega)
 have w6 := wu_id lab0 (by omega)
 have w7 := wu_id lac0 (by omega)
 rw [decide_eq_true (by omega), decide_eq_true (by omega), decide_eq_true (by omega)]
 cases hip with
 | true =>
  rw [cond_true, cond_true, cond_true, cond_true]
  rw [decide_eq_true (by omega), decide_eq_true (by omega)]
  cases hl : (lab2 != 0) with
  | true => rw [cond_true, cond_true, cond_true, decide_eq_true (by omega)]; simp only [val2, hl, w1, w2, w3, w4, w5, w6, w7]; rfl
  | false => simp only [val2, hl, w1, w2, w3, w4, w5, w6, w7]; rfl
 | false =>
  rw [cond_true, cond_true, cond_true, cond_false]
  rw [decide_eq_true (by omega)]
  cases hl : (lab2 != 0) with
  | true => rw [cond_true, cond_true, decide_eq_true (by omega)]; simp only [val2, hl, w1, w2, w3, w4, w5, w6, w7]; rfl
  | false => simp only [val2, hl, w1, w2, w3, w4, w5, w6, w7]; rfl)
theorem cput_t3 (kind rd e0 e1 e2 e3 e4 e5 e6 e7 e8 e9 tag mac ip : Int) (hip : Bool) (pip plen gw lab lab2 : Int) : opn κb Tryz.f148 [.agg [], .ptr 0 0, Nl.v ⟨kind, rd, e0, e1, e2, e3, e4, e5, e6, e7, e8, e9, tag, mac, ip, hip, pip, plen, gw, lab, lab2⟩] [(0, .cells 133 [.nils, .int .i64 40, .mp 1]), (1, .mpc [] [])] =
 bif decide (0 ≤ rd ∧ rd < 256 ^ 8 ∧ ((8 : Nat) : Int) ≤ 40 ∧ (40 : Int) ≤ 65536) then (bif decide (8 = 8 ∧ 0 ≤ (IntKind.u64.wrap tag) ∧ (IntKind.u64.wrap tag) < 256 ^ 4 ∧ ((8 + 4 : Nat) : Int) ≤ 40 ∧ (40 : Int) ≤ 65536) then (bif decide (13 = 13 ∧ 0 ≤ (IntKind.u64.wrap ip) ∧ (IntKind.u64.wrap ip) < 256 ^ 4 ∧ ((13 + 4 : Nat) : Int) ≤ 40 ∧ (40 : Int) ≤ 65536) then (.ret (.tup []) [(0, some (.cells 133 [.qs 2 1 0 17, .int .i64 40, .mp 1])), (2, some (.seq 5 (be rd 8 ++ be (IntKind.u64.wrap tag) 4 ++ be 32 1 ++ be (IntKind.u64.wrap ip) 4)))]) else .fail) else .fail) else .fail := by kernel_rfl
theorem cput_k3 : Known Tryz.prog 148 (cput_s val3) := (openKnown bOk Tryz.func148 rfl).weak (by
 intro args H v ups h
 obtain ⟨n, hok, rfl, rfl, rfl, rfl⟩ := cput_case h
 obtain ⟨kind, rd, e0, e1, e2, e3, e4, e5, e6, e7, e8, e9, tag, mac, ip, hip, pip, plen, gw, lab, lab2⟩ := n
 obtain ⟨rd0, rd1, tag0, tag1, mac0, mac1, ip0, ip1, pip0, pip1, pl0, pl1, gw0, gw1, lab0, lab1, lac0, lac1⟩ := hok
 simp only at rd0 rd1 tag0 tag1 mac0 mac1 ip0 ip1 pip0 pip1 pl0 pl1 gw0 gw1 lab0 lab1 lac0 lac1
 rw [cput_t3]
 have w1 := wu_id tag0 (by omega)
 have w2 := wu_id ip0 (by omega)
 have w3 := wu_id pip0 (by omega)
 have w4 := wu_id pl0 (by omega)
 have w5 := wu_id gw0 (by omega)
 have w6 := wu_id lab0 (by omega)
 have w7 := wu_id lac0 (by omega)
 rw [decide_eq_true (by omega), decide_eq_true (by omega), decide_eq_true (by omega)]
 simp only [w1, w2, w3, w4, w5, w6, w7]
 rfl)
theorem cput_t4 (kind rd e0 e1 e2 e3 e4 e5 e6 e7 e8 e9 tag mac ip : Int) (hip : Bool) (pip plen gw lab lab2 : Int) : opn κb Tryz.f150 [.agg [], .ptr 0 0, Nl.v ⟨kind, rd, e0, e1, e2, e3, e4, e5, e6, e7, e8, e9, tag, mac, ip, hip, pip, plen, gw, lab, lab2⟩] [(0, .cells 133 [.nils, .int .i64 40, .mp 1]), (1, .mpc [] [])] =
 bif decide (0 ≤ rd ∧ rd < 256 ^ 8 ∧ ((8 : Nat) : Int) ≤ 40 ∧ (40 : Int) ≤ 65536) then (bif decide (19 = 19 ∧ 0 ≤ (IntKind.u64.wrap ip) ∧ (IntKind.u64.wrap ip) < 256 ^ 4 ∧ ((19 + 4 : Nat) : Int) ≤ 40 ∧ (40 : Int) ≤ 65536) then (.ret (.tup []) [(0, some (.cells 133 [.qs 2 1 0 23, .int .i64 40, .mp 1])), (2, some (.seq 5 (be rd 8 ++ [.int .u8 e0, .int .u8 e1, .int .u8 e2, .int .u8 e3, .int .u8 e4, .int .u8 e5, .int .u8 e6, .int .u8 e7, .int .u8 e8, .int .u8 e9] ++ be 32 1 ++ be (IntKind.u64.wrap ip) 4)))]) else .fail) else .fail := by kernel_rfl
theorem cput_k4 : Known Tryz.prog 150 (cput_s val4) := (openKnown bOk Tryz.func150 rfl).weak (by
 intro args H v ups h
 obtain ⟨n, hok, rfl, rfl, rfl, rfl⟩ := cput_case h
 obtain ⟨kind, rd, e0, e1, e2, e3, e4, e5, e6, e7, e8, e9, tag, mac, ip, hip, pip, plen, gw, lab, lab2⟩ := n
 obtain ⟨rd0, rd1, tag0, tag1, mac0, mac1, ip0, ip1, pip0, pip1, pl0, pl1, gw0, gw1, lab0, lab1, lac0, lac1⟩ := hok
 simp only at rd0 rd1 tag0 tag1 mac0 mac1 ip0 ip1 pip0 pip1 pl0 pl1 gw0 gw1 lab0 lab1 lac0 lac1
 rw [cput_t4]
 have w1 := wu_id tag0 (by omega)
 have w2 := wu_id ip0 (by omega)
 have w3 := wu_id pip0 (by omega)
 have w4 := wu_id pl0 (by omega)
 have w5 := wu_id gw0 (by omega)
 have w6 := wu_id lab0 (by omega)
 have w7 := wu_id lac0 (by omega)
 rw [decide_eq_true (by omega), decide_eq_true (by omega)]
 simp only [w1, w2, w3, w4, w5, w6, w7]
 rfl)
theorem cput_t5 (kind rd e0 e1 e2 e3 e4 e5 e6 e7 e8 e9 tag mac ip : Int) (hip : Bool) (pip plen gw lab lab2 : Int) : opn κb Tryz.f152 [.agg [], .ptr 0 0, Nl.v ⟨kind, rd, e0, e1, e2, e3, e4, e5, e6, e7, e8, e9, tag, mac, ip, hip, pip, plen, gw, lab, lab2⟩] [(0, .cells 133 [.nils, .int .i64 40, .mp 1]), (1, .mpc [] [])] =
 bif decide (0 ≤ rd ∧ rd < 256 ^ 8 ∧ ((8 : Nat) : Int) ≤ 40 ∧ (40 : Int) ≤ 65536) then (bif decide (18 = 18 ∧ 0 ≤ (IntKind.u64.wrap tag) ∧ (IntKind.u64.wrap tag) < 256 ^ 4 ∧ ((18 + 4 : Nat) : Int) ≤ 40 ∧ (40 : Int) ≤ 65536) then (bif decide (22 = 22 ∧ 0 ≤ (IntKind.u64.wrap plen) ∧ (IntKind.u64.wrap plen) < 256 ^ 1 ∧ ((22 + 1 : Nat) : Int) ≤ 40 ∧ (40 : Int) ≤ 65536) then (bif decide (23 = 23 ∧ 0 ≤ (IntKind.u64.wrap pip) ∧ (IntKind.u64.wrap pip) < 256 ^ 4 ∧ ((23 + 4 : Nat) : Int) ≤ 40 ∧ (40 : Int) ≤ 65536) then (bif decide (27 = 27 ∧ 0 ≤ (IntKind.u64.wrap gw) ∧ (IntKind.u64.wrap gw) < 256 ^ 4 ∧ ((27 + 4 : Nat) : Int) ≤ 40 ∧ (40 : Int) ≤ 65536) then (bif decide (31 = 31 ∧ 0 ≤ (IntKind.u64.wrap lab) ∧ (IntKind.u64.wrap lab) < 256 ^ 3 ∧ ((31 + 3 : Nat) : Int) ≤ 40 ∧ (40 : Int) ≤ 65536) then (.ret (.tup []) [(0, some (.cells 133 [.qs 2 1 0 34, .int .i64 40, .mp 1])), (2, some (.seq 5 (be rd 8 ++ [.int .u8 e0, .int .u8 e1, .int .u8 e2, .int .u8 e3, .int .u8 e4, .int .u8 e5, .int .u8 e6, .int .u8 e7, .int .u8 e8, .int .u8 e9] ++ be (IntKind.u64.wrap tag) 4 ++ be (IntKind.u64.wrap plen) 1 ++ be (IntKind.u64.wrap pip) 4 ++ be (IntKind.u64.wrap gw) 4 ++ be (IntKind.u64.wrap lab) 3)))]) else .fail) else .fail) else .fail) else .fail) else .fail) else .fail := by kernel_rfl
theorem cput_k5 : Known Tryz.prog 152 (cput_s val5) := (openKnown bOk Tryz.func152 rfl).weak (by
 intro args H v ups h
 obtain ⟨n, hok, rfl, rfl, rfl, rfl⟩ := cput_case h
 obtain ⟨kind, rd, e0, e1, e2, e3, e4, e5, e6, e7, e8, e9, tag, mac, ip, hip, pip, plen, gw, lab, lab2⟩ := n
 obtain ⟨rd0, rd1, tag0, tag1, mac0, mac1, ip0, ip1, pip0, pip1, pl0, pl1, gw0, gw1, lab0, lab1, lac0, lac1⟩ := hok
 simp only at rd0 rd1 tag0 tag1 mac0 mac1 ip0 ip1 pip0 pip1 pl0 pl1 gw0 gw1 lab0 lab1 lac0 lac1
 rw [cput_t5]
 have w1 := wu_id tag0 (by omega)
 have w2 := wu_id ip0 (by omega)
 have w3 := wu_id pip0 (by omega)
 have w4 := wu_id pl0 (by omega)
 have w5 := wu_id gw0 (by omega)
 have w6 := wu_id lab0 (by omega)
 have w7 := wu_id lac0 (by omega)
 rw [decide_eq_true (by omega), decide_eq_true (by omega), decide_eq_true (by omega), decide_eq_true (by omega), decide_eq_true (by omega), decide_eq_true (by omega)]
 simp only [w1, w2, w3, w4, w5, w6, w7]
 rfl)
end Go.Proofs.YtdgnhaacdpmclaaGreat
