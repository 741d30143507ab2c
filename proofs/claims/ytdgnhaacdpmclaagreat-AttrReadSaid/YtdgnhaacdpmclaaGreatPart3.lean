/- Routes: their bytes by the reference. -/
import Derived.Test.YtdgnhaacdpmclaaGreatPart2
import Derived.Test.YtdgnhaacdpmclaaGreatMachine4
namespace Go.Proofs.YtdgnhaacdpmclaaGreat
open Go.Am
set_option maxRecDepth 100000
noncomputable abbrev κe := tbl [(37, check_s), (38, rput_s)]
theorem eOk : KOk Tryz.prog κe := tbl_cons rcheck_k (tbl_cons p4_k ok0)
theorem rby_t1 (rd e0 e1 e2 e3 e4 e5 e6 e7 e8 e9 tag mac ip : Int) (hip : Bool) (pip plen gw lab lab2 : Int) : opn κe Tryz.f18 [Nl.v ⟨1, rd, e0, e1, e2, e3, e4, e5, e6, e7, e8, e9, tag, mac, ip, hip, pip, plen, gw, lab, lab2⟩] [] =
 bif chk ⟨1, rd, e0, e1, e2, e3, e4, e5, e6, e7, e8, e9, tag, mac, ip, hip, pip, plen, gw, lab, lab2⟩ != 0 then .ret (.tup [.nils, .int .i64 (chk ⟨1, rd, e0, e1, e2, e3, e4, e5, e6, e7, e8, e9, tag, mac, ip, hip, pip, plen, gw, lab, lab2⟩)]) [] else .ret (.tup [.qs 0 1 0 27, .int .i64 0]) [(0, some (.seq 5 ([.int .u8 1, .int .u8 25] ++ (be rd 8 ++ [.int .u8 e0, .int .u8 e1, .int .u8 e2, .int .u8 e3, .int .u8 e4, .int .u8 e5, .int .u8 e6, .int .u8 e7, .int .u8 e8, .int .u8 e9] ++ be (IntKind.u64.wrap tag) 4 ++ be (IntKind.u64.wrap lab) 3))))] := by kernel_rfl
theorem rby_ok1 (rd e0 e1 e2 e3 e4 e5 e6 e7 e8 e9 tag mac ip : Int) (hip : Bool) (pip plen gw lab lab2 : Int) (hc : chk ⟨1, rd, e0, e1, e2, e3, e4, e5, e6, e7, e8, e9, tag, mac, ip, hip, pip, plen, gw, lab, lab2⟩ = 0) (hok : OkP ⟨1, rd, e0, e1, e2, e3, e4, e5, e6, e7, e8, e9, tag, mac, ip, hip, pip, plen, gw, lab, lab2⟩) : crun (opn κe Tryz.f18 [Nl.v ⟨1, rd, e0, e1, e2, e3, e4, e5, e6, e7, e8, e9, tag, mac, ip, hip, pip, plen, gw, lab, lab2⟩] []) = some (.tup [.qs 0 1 0 (nb ⟨1, rd, e0, e1, e2, e3, e4, e5, e6, e7, e8, e9, tag, mac, ip, hip, pip, plen, gw, lab, lab2⟩).length, .int .i64 0], [(0, some (.seq 5 (nb ⟨1, rd, e0, e1, e2, e3, e4, e5, e6, e7, e8, e9, tag, mac, ip, hip, pip, plen, gw, lab, lab2⟩)))]) := by
 obtain ⟨rd0, rd1, tag0, tag1, mac0, mac1, ip0, ip1, pip0, pip1, pl0, pl1, gw0, gw1, lab0, lab1, lac0, lac1⟩ := hok
 simp only at rd0 rd1 tag0 tag1 mac0 mac1 ip0 ip1 pip0 pip1 pl0 pl1 gw0 gw1 lab0 lab1 lac0 lac1
 have w1 := wu_id tag0 (by omega)
 have w2 := wu_id ip0 (by omega)
 have w3 := wu_id pip0 (by omega)
 have w4 := w8_eq plen
 have w5 := wu_id gw0 (by omega)
 have w6 := wu_id lab0 (by omega)
 have w7 := wu_id lac0 (by omega)
 have w8 : plen / 256 ^ 0 % 256 = plen % 256 := by rw [Int.pow_zero, Int.ediv_one]
 rw [rby_t1, hc]
 simp only [w1, w6]
 rfl
theorem rby_t2true (rd e0 e1 e2 e3 e4 e5 e6 e7 e8 e9 tag mac ip : Int) (pip plen gw lab lab2 : Int) : opn κe Tryz.f18 [Nl.v ⟨2, rd, e0, e1, e2, e3, e4, e5, e6, e7, e8, e9, tag, mac, ip, true, pip, plen, gw, lab, lab2⟩] [] =
 bif chk ⟨2, rd, e0, e1, e2, e3, e4, e5, e6, e7, e8, e9, tag, mac, ip, true, pip, plen, gw, lab, lab2⟩ != 0 then .ret (.tup [.nils, .int .i64 (chk ⟨2, rd, e0, e1, e2, e3, e4, e5, e6, e7, e8, e9, tag, mac, ip, true, pip, plen, gw, lab, lab2⟩)]) [] else bif lab2 != 0 then .ret (.tup [.qs 0 1 0 42, .int .i64 0]) [(0, some (.seq 5 ([.int .u8 2, .int .u8 40] ++ (be rd 8 ++ [.int .u8 e0, .int .u8 e1, .int .u8 e2, .int .u8 e3, .int .u8 e4, .int .u8 e5, .int .u8 e6, .int .u8 e7, .int .u8 e8, .int .u8 e9] ++ be (IntKind.u64.wrap tag) 4 ++ be 48 1 ++ be mac 6 ++ be 32 1 ++ be (IntKind.u64.wrap ip) 4 ++ be (IntKind.u64.wrap lab) 3 ++ be (IntKind.u64.wrap lab2) 3))))] else .ret (.tup [.qs 0 1 0 39, .int .i64 0]) [(0, some (.seq 5 ([.int .u8 2, .int .u8 37] ++ (be rd 8 ++ [.int .u8 e0, .int .u8 e1, .int .u8 e2, .int .u8 e3, .int .u8 e4, .int .u8 e5, .int .u8 e6, .int .u8 e7, .int .u8 e8, .int .u8 e9] ++ be (IntKind.u64.wrap tag) 4 ++ be 48 1 ++ be mac 6 ++ be 32 1 ++ be (IntKind.u64.wrap ip) 4 ++ be (IntKind.u64.wrap lab) 3))))] := by kernel_rfl
theorem rby_ok2true (rd e0 e1 e2 e3 e4 e5 e6 e7 e8 e9 tag mac ip : Int) (pip plen gw lab lab2 : Int) (hc : chk ⟨2, rd, e0, e1, e2, e3, e4, e5, e6, e7, e8, e9, tag, mac, ip, true, pip, plen, gw, lab, lab2⟩ = 0) (hok : OkP ⟨2, rd, e0, e1, e2, e3, e4, e5, e6, e7, e8, e9, tag, mac, ip, true, pip, plen, gw, lab, lab2⟩) : crun (opn κe Tryz.f18 [Nl.v ⟨2, rd, e0, e1, e2, e3, e4, e5, e6, e7, e8, e9, tag, mac, ip, true, pip, plen, gw, lab, lab2⟩] []) = some (.tup [.qs 0 1 0 (nb ⟨2, rd, e0, e1, e2, e3, e4, e5, e6, e7, e8, e9, tag, mac, ip, true, pip, plen, gw, lab, lab2⟩).length, .int .i64 0], [(0, some (.seq 5 (nb ⟨2, rd, e0, e1, e2, e3, e4, e5, e6, e7, e8, e9, tag, mac, ip, true, pip, plen, gw, lab, lab2⟩)))]) := by
 obtain ⟨rd0, rd1, tag0, tag1, mac0, mac1, ip0, ip1, pip0, pip1, pl0, pl1, gw0, gw1, lab0, lab1, lac0, lac1⟩ := hok
 simp only at rd0 rd1 tag0 tag1 mac0 mac1 ip0 ip1 pip0 pip1 pl0 pl1 gw0 gw1 lab0 lab1 lac0 lac1
 have w1 := wu_id tag0 (by omega)
 have w2 := wu_id ip0 (by omega)
 have w3 := wu_id pip0 (by omega)
 have w4 := w8_eq plen
 have w5 := wu_id gw0 (by omega)
 have w6 := wu_id lab0 (by omega)
 have w7 := wu_id lac0 (by omega)
 have w8 : plen / 256 ^ 0 % 256 = plen % 256 := by rw [Int.pow_zero, Int.ediv_one]
 rw [rby_t2true, hc]
 simp only [w1, w2, w6, w7]
 cases hl : (lab2 != 0) with
 | true => simp only [nb, encL, val2, hl]; rfl
 | false => simp only [nb, encL, val2, hl]; rfl
theorem rby_t2false (rd e0 e1 e2 e3 e4 e5 e6 e7 e8 e9 tag mac ip : Int) (pip plen gw lab lab2 : Int) : opn κe Tryz.f18 [Nl.v ⟨2, rd, e0, e1, e2, e3, e4, e5, e6, e7, e8, e9, tag, mac, ip, false, pip, plen, gw, lab, lab2⟩] [] =
 bif chk ⟨2, rd, e0, e1, e2, e3, e4, e5, e6, e7, e8, e9, tag, mac, ip, false, pip, plen, gw, lab, lab2⟩ != 0 then .ret (.tup [.nils, .int .i64 (chk ⟨2, rd, e0, e1, e2, e3, e4, e5, e6, e7, e8, e9, tag, mac, ip, false, pip, plen, gw, lab, lab2⟩)]) [] else bif lab2 != 0 then .ret (.tup [.qs 0 1 0 38, .int .i64 0]) [(0, some (.seq 5 ([.int .u8 2, .int .u8 36] ++ (be rd 8 ++ [.int .u8 e0, .int .u8 e1, .int .u8 e2, .int .u8 e3, .int .u8 e4, .int .u8 e5, .int .u8 e6, .int .u8 e7, .int .u8 e8, .int .u8 e9] ++ be (IntKind.u64.wrap tag) 4 ++ be 48 1 ++ be mac 6 ++ be 0 1 ++ be (IntKind.u64.wrap lab) 3 ++ be (IntKind.u64.wrap lab2) 3))))] else .ret (.tup [.qs 0 1 0 35, .int .i64 0]) [(0, some (.seq 5 ([.int .u8 2, .int .u8 33] ++ (be rd 8 ++ [.int .u8 e0, .int .u8 e1, .int .u8 e2, .int .u8 e3, .int .u8 e4, .int .u8 e5, .int .u8 e6, .int .u8 e7, .int .u8 e8, .int .u8 e9] ++ be (IntKind.u64.wrap tag) 4 ++ be 48 1 ++ be mac 6 ++ be 0 1 ++ be (IntKind.u64.wrap lab) 3))))] := by kernel_rfl
theorem rby_ok2false (rd e0 e1 e2 e3 e4 e5 e6 e7 e8 e9 tag mac ip : Int) (pip plen gw lab lab2 : Int) (hc : chk ⟨2, rd, e0, e1, e2, e3, e4, e5, e6, e7, e8, e9, tag, mac, ip, false, pip, plen, gw, lab, lab2⟩ = 0) (hok : OkP ⟨2, rd, e0, e1, e2, e3, e4, e5, e6, e7, e8, e9, tag, mac, ip, false, pip, plen, gw, lab, lab2⟩) : crun (opn κe Tryz.f18 [Nl.v ⟨2, rd, e0, e1, e2, e3, e4, e5, e6, e7, e8, e9, tag, mac, ip, false, pip, plen, gw, lab, lab2⟩] []) = some (.tup [.qs 0 1 0 (nb ⟨2, rd, e0, e1, e2, e3, e4, e5, e6, e7, e8, e9, tag, mac, ip, false, pip, plen, gw, lab, lab2⟩).length, .int .i64 0], [(0, some (.seq 5 (nb ⟨2, rd, e0, e1, e2, e3, e4, e5, e6, e7, e8, e9, tag, mac, ip, false, pip, plen, gw, lab, lab2⟩)))]) := by
 obtain ⟨rd0, rd1, tag0, tag1, mac0, mac1, ip0, ip1, pip0, pip1, pl0, pl1, gw0, gw1, lab0, lab1, lac0, lac1⟩ := hok
 simp only at rd0 rd1 tag0 tag1 mac0 mac1 ip0 ip1 pip0 pip1 pl0 pl1 gw0 gw1 lab0 lab1 lac0 lac1
 have w1 := wu_id tag0 (by omega)
 have w2 := wu_id ip0 (by omega)
 have w3 := wu_id pip0 (by omega)
 have w4 := w8_eq plen
 have w5 := wu_id gw0 (by omega)
 have w6 := wu_id lab0 (by omega)
 have w7 := wu_id lac0 (by omega)
 have w8 : plen / 256 ^ 0 % 256 = plen % 256 := by rw [Int.pow_zero, Int.ediv_one]
 rw [rby_t2false, hc]
 simp only [w1, w6, w7]
 cases hl : (lab2 != 0) with
 | true => simp only [nb, encL, val2, hl]; rfl
 | false => simp only [nb, encL, val2, hl]; rfl
theorem rby_t3 (rd e0 e1 e2 e3 e4 e5 e6 e7 e8 e9 tag mac ip : Int) (hip : Bool) (pip plen gw lab lab2 : Int) : opn κe Tryz.f18 [Nl.v ⟨3, rd, e0, e1, e2, e3, e4, e5, e6, e7, e8, e9, tag, mac, ip, hip, pip, plen, gw, lab, lab2⟩] [] =
 bif chk ⟨3, rd, e0, e1, e2, e3, e4, e5, e6, e7, e8, e9, tag, mac, ip, hip, pip, plen, gw, lab, lab2⟩ != 0 then .ret (.tup [.nils, .int .i64 (chk ⟨3, rd, e0, e1, e2, e3, e4, e5, e6, e7, e8, e9, tag, mac, ip, hip, pip, plen, gw, lab, lab2⟩)]) [] else .ret (.tup [.qs 0 1 0 19, .int .i64 0]) [(0, some (.seq 5 ([.int .u8 3, .int .u8 17] ++ (be rd 8 ++ be (IntKind.u64.wrap tag) 4 ++ be 32 1 ++ be (IntKind.u64.wrap ip) 4))))] := by kernel_rfl
theorem rby_ok3 (rd e0 e1 e2 e3 e4 e5 e6 e7 e8 e9 tag mac ip : Int) (hip : Bool) (pip plen gw lab lab2 : Int) (hc : chk ⟨3, rd, e0, e1, e2, e3, e4, e5, e6, e7, e8, e9, tag, mac, ip, hip, pip, plen, gw, lab, lab2⟩ = 0) (hok : OkP ⟨3, rd, e0, e1, e2, e3, e4, e5, e6, e7, e8, e9, tag, mac, ip, hip, pip, plen, gw, lab, lab2⟩) : crun (opn κe Tryz.f18 [Nl.v ⟨3, rd, e0, e1, e2, e3, e4, e5, e6, e7, e8, e9, tag, mac, ip, hip, pip, plen, gw, lab, lab2⟩] []) = some (.tup [.qs 0 1 0 (nb ⟨3, rd, e0, e1, e2, e3, e4, e5, e6, e7, e8, e9, tag, mac, ip, hip, pip, plen, gw, lab, lab2⟩).length, .int .i64 0], [(0, some (.seq 5 (nb ⟨3, rd, e0, e1, e2, e3, e4, e5, e6, e7, e8, e9, tag, mac, ip, hip, pip, plen, gw, lab, lab2⟩)))]) := by
 obtain ⟨rd0, rd1, tag0, tag1, mac0, mac1, ip0, ip1, pip0, pip1, pl0, pl1, gw0, gw1, lab0, lab1, lac0, lac1⟩ := hok
 simp only at rd0 rd1 tag0 tag1 mac0 mac1 ip0 ip1 pip0 pip1 pl0 pl1 gw0 gw1 lab0 lab1 lac0 lac1
 have w1 := wu_id tag0 (by omega)
 have w2 := wu_id ip0 (by omega)
 have w3 := wu_id pip0 (by omega)
 have w4 := w8_eq plen
 have w5 := wu_id gw0 (by omega)
 have w6 := wu_id lab0 (by omega)
 have w7 := wu_id lac0 (by omega)
 have w8 : plen / 256 ^ 0 % 256 = plen % 256 := by rw [Int.pow_zero, Int.ediv_one]
 rw [rby_t3, hc]
 simp only [w1, w2]
 rfl
theorem rby_t4 (rd e0 e1 e2 e3 e4 e5 e6 e7 e8 e9 tag mac ip : Int) (hip : Bool) (pip plen gw lab lab2 : Int) : opn κe Tryz.f18 [Nl.v ⟨4, rd, e0, e1, e2, e3, e4, e5, e6, e7, e8, e9, tag, mac, ip, hip, pip, plen, gw, lab, lab2⟩] [] =
 bif chk ⟨4, rd, e0, e1, e2, e3, e4, e5, e6, e7, e8, e9, tag, mac, ip, hip, pip, plen, gw, lab, lab2⟩ != 0 then .ret (.tup [.nils, .int .i64 (chk ⟨4, rd, e0, e1, e2, e3, e4, e5, e6, e7, e8, e9, tag, mac, ip, hip, pip, plen, gw, lab, lab2⟩)]) [] else .ret (.tup [.qs 0 1 0 25, .int .i64 0]) [(0, some (.seq 5 ([.int .u8 4, .int .u8 23] ++ (be rd 8 ++ [.int .u8 e0, .int .u8 e1, .int .u8 e2, .int .u8 e3, .int .u8 e4, .int .u8 e5, .int .u8 e6, .int .u8 e7, .int .u8 e8, .int .u8 e9] ++ be 32 1 ++ be (IntKind.u64.wrap ip) 4))))] := by kernel_rfl
theorem rby_ok4 (rd e0 e1 e2 e3 e4 e5 e6 e7 e8 e9 tag mac ip : Int) (hip : Bool) (pip plen gw lab lab2 : Int) (hc : chk ⟨4, rd, e0, e1, e2, e3, e4, e5, e6, e7, e8, e9, tag, mac, ip, hip, pip, plen, gw, lab, lab2⟩ = 0) (hok : OkP ⟨4, rd, e0, e1, e2, e3, e4, e5, e6, e7, e8, e9, tag, mac, ip, hip, pip, plen, gw, lab, lab2⟩) : crun (opn κe Tryz.f18 [Nl.v ⟨4, rd, e0, e1, e2, e3, e4, e5, e6, e7, e8, e9, tag, mac, ip, hip, pip, plen, gw, lab, lab2⟩] []) = some (.tup [.qs 0 1 0 (nb ⟨4, rd, e0, e1, e2, e3, e4, e5, e6, e7, e8, e9, tag, mac, ip, hip, pip, plen, gw, lab, lab2⟩).length, .int .i64 0], [(0, some (.seq 5 (nb ⟨4, rd, e0, e1, e2, e3, e4, e5, e6, e7, e8, e9, tag, mac, ip, hip, pip, plen, gw, lab, lab2⟩)))]) := by
 obtain ⟨rd0, rd1, tag0, tag1, mac0, mac1, ip0, ip1, pip0, pip1, pl0, pl1, gw0, gw1, lab0, lab1, lac0, lac1⟩ := hok
 simp only at rd0 rd1 tag0 tag1 mac0 mac1 ip0 ip1 pip0 pip1 pl0 pl1 gw0 gw1 lab0 lab1 lac0 lac1
 have w1 := wu_id tag0 (by omega)
 have w2 := wu_id ip0 (by omega)
 have w3 := wu_id pip0 (by omega)
 have w4 := w8_eq plen
 have w5 := wu_id gw0 (by omega)
 have w6 := wu_id lab0 (by omega)
 have w7 := wu_id lac0 (by omega)
 have w8 : plen / 256 ^ 0 % 256 = plen % 256 := by rw [Int.pow_zero, Int.ediv_one]
 rw [rby_t4, hc]
 simp only [w2]
 rfl
theorem rby_t5 (rd e0 e1 e2 e3 e4 e5 e6 e7 e8 e9 tag mac ip : Int) (hip : Bool) (pip plen gw lab lab2 : Int) : opn κe Tryz.f18 [Nl.v ⟨5, rd, e0, e1, e2, e3, e4, e5, e6, e7, e8, e9, tag, mac, ip, hip, pip, plen, gw, lab, lab2⟩] [] =
 bif chk ⟨5, rd, e0, e1, e2, e3, e4, e5, e6, e7, e8, e9, tag, mac, ip, hip, pip, plen, gw, lab, lab2⟩ != 0 then .ret (.tup [.nils, .int .i64 (chk ⟨5, rd, e0, e1, e2, e3, e4, e5, e6, e7, e8, e9, tag, mac, ip, hip, pip, plen, gw, lab, lab2⟩)]) [] else .ret (.tup [.qs 0 1 0 36, .int .i64 0]) [(0, some (.seq 5 ([.int .u8 5, .int .u8 34] ++ (be rd 8 ++ [.int .u8 e0, .int .u8 e1, .int .u8 e2, .int .u8 e3, .int .u8 e4, .int .u8 e5, .int .u8 e6, .int .u8 e7, .int .u8 e8, .int .u8 e9] ++ be (IntKind.u64.wrap tag) 4 ++ [.int .u8 (IntKind.u8.wrap plen)] ++ be (IntKind.u64.wrap pip) 4 ++ be (IntKind.u64.wrap gw) 4 ++ be (IntKind.u64.wrap lab) 3))))] := by kernel_rfl
theorem rby_ok5 (rd e0 e1 e2 e3 e4 e5 e6 e7 e8 e9 tag mac ip : Int) (hip : Bool) (pip plen gw lab lab2 : Int) (hc : chk ⟨5, rd, e0, e1, e2, e3, e4, e5, e6, e7, e8, e9, tag, mac, ip, hip, pip, plen, gw, lab, lab2⟩ = 0) (hok : OkP ⟨5, rd, e0, e1, e2, e3, e4, e5, e6, e7, e8, e9, tag, mac, ip, hip, pip, plen, gw, lab, lab2⟩) : crun (opn κe Tryz.f18 [Nl.v ⟨5, rd, e0, e1, e2, e3, e4, e5, e6, e7, e8, e9, tag, mac, ip, hip, pip, plen, gw, lab, lab2⟩] []) = some (.tup [.qs 0 1 0 (nb ⟨5, rd, e0, e1, e2, e3, e4, e5, e6, e7, e8, e9, tag, mac, ip, hip, pip, plen, gw, lab, lab2⟩).length, .int .i64 0], [(0, some (.seq 5 (nb ⟨5, rd, e0, e1, e2, e3, e4, e5, e6, e7, e8, e9, tag, mac, ip, hip, pip, plen, gw, lab, lab2⟩)))]) := by
 obtain ⟨rd0, rd1, tag0, tag1, mac0, mac1, ip0, ip1, pip0, pip1, pl0, pl1, gw0, gw1, lab0, lab1, lac0, lac1⟩ := hok
 simp only at rd0 rd1 tag0 tag1 mac0 mac1 ip0 ip1 pip0 pip1 pl0 pl1 gw0 gw1 lab0 lab1 lac0 lac1
 have w1 := wu_id tag0 (by omega)
 have w2 := wu_id ip0 (by omega)
 have w3 := wu_id pip0 (by omega)
 have w4 := w8_eq plen
 have w5 := wu_id gw0 (by omega)
 have w6 := wu_id lab0 (by omega)
 have w7 := wu_id lac0 (by omega)
 have w8 : plen / 256 ^ 0 % 256 = plen % 256 := by rw [Int.pow_zero, Int.ediv_one]
 rw [rby_t5, hc]
 simp only [w1, w3, w4, w5, w6]
 rw [← w8]; rfl
theorem rbytes_k : Known Tryz.prog 18 nbytes_s := (openKnown eOk Tryz.func18 rfl).weak (by
 intro args H v ups h
 obtain ⟨n, hc, hok, rfl, rfl, rfl, rfl⟩ := nbytes_case h
 obtain ⟨kind, rd, e0, e1, e2, e3, e4, e5, e6, e7, e8, e9, tag, mac, ip, hip, pip, plen, gw, lab, lab2⟩ := n
 obtain hk | hk | hk | hk | hk := chk_kind hc <;> cases hk
 · exact rby_ok1 _ _ _ _ _ _ _ _ _ _ _ _ _ _ _ _ _ _ _ _ hc hok
 · cases hip with
   | true => exact rby_ok2true _ _ _ _ _ _ _ _ _ _ _ _ _ _ _ _ _ _ _ hc hok
   | false => exact rby_ok2false _ _ _ _ _ _ _ _ _ _ _ _ _ _ _ _ _ _ _ hc hok
 · exact rby_ok3 _ _ _ _ _ _ _ _ _ _ _ _ _ _ _ _ _ _ _ _ hc hok
 · exact rby_ok4 _ _ _ _ _ _ _ _ _ _ _ _ _ _ _ _ _ _ _ _ hc hok
 · exact rby_ok5 _ _ _ _ _ _ _ _ _ _ _ _ _ _ _ _ _ _ _ _ hc hok)
end Go.Proofs.YtdgnhaacdpmclaaGreat
/- Readers: numbers. -/
namespace Go.Proofs.YtdgnhaacdpmclaaGreat
open Go.Am
set_option maxRecDepth 100000
noncomputable def dec (p : Prop) : Bool := (Classical.propDecidable p).decide
theorem dec_iff {p : Prop} : dec p = true ↔ p := by unfold dec; exact @decide_eq_true_iff _ (Classical.propDecidable _)
def dg (es : List SV) (i : Nat) : Int := asI (es.getD i .junk)
def tkN (es : List SV) (s : Nat) : Nat → Int
 | 0 => 0
 | k + 1 => tkN es s k * 256 + dg es (s + k)
def okBy (es : List SV) : Prop := ∀ k : Nat, 0 ≤ dg es k ∧ dg es k ≤ 255
theorem tkN_rng {es : List SV} (h : okBy es) (s : Nat) : ∀ k, 0 ≤ tkN es s k ∧ tkN es s k < 256 ^ k
 | 0 => by simp [tkN]
 | k + 1 => by
  obtain ⟨h1, h2⟩ := tkN_rng h s k
  obtain ⟨h3, h4⟩ := h (s + k)
  rw [tkN, Int.pow_succ]
  generalize (256 : Int) ^ k = p at *
  omega
def accS (acc x : Int) : Int := IntKind.u64.wrap ((BitVec.ofInt IntKind.u64.bits (IntKind.u64.wrap (acc * 2 ^ min (8 : Int).toNat IntKind.u64.bits)) ||| BitVec.ofInt IntKind.u64.bits (IntKind.u64.wrap x)).toNat : Int)
noncomputable def body91 : Code := Tryz.f91.body.getD .skip
noncomputable def c91 : Code := (loopAt 4 body91).getD .skip
noncomputable def numLs : CSumm
 | [.nils, .int .i64 n, .int .i64 i, .int .u64 a], [] => .ite (decide (n ≤ i)) (.ret (.tup [.int .i64 2, .int .u64 a]) []) .fail
 | [.qs 0 1 l n, .int .i64 m, .int .i64 i, .int .u64 a], [(0, .seq 5 es)] => .ite (dec (m = n ∧ 0 ≤ i ∧ i ≤ n ∧ n ≤ 8 ∧ l + n ≤ es.length ∧ okBy es ∧ a = tkN es l i.toNat)) (.ret (.tup [.int .i64 2, .int .u64 (tkN es l n)]) []) .fail
 | _, _ => .fail
def numM : List SV → HpL → Nat
 | [_, .int _ n, .int _ i, _], _ => (n - i).toNat
 | _, _ => 0
noncomputable def e91 : LEnt := { ins := [16, 17, 18, 7], outs := [7], keep := [], size := 29, code := c91, s := numLs }
noncomputable abbrev κ0 := openT Tryz.prog (tbl []) 300 5
noncomputable abbrev ι0 : Nat → Bool := fun g => inl (tbl []) g && hasBody Tryz.prog g
noncomputable def nextN (N : Nat) (es : List SV) (l n : Nat) (m i a : Int) : CTree :=
 bif Nat.blt (m - i).toNat N then bif dec (m = n ∧ 0 ≤ i ∧ i ≤ n ∧ n ≤ 8 ∧ l + n ≤ es.length ∧ okBy es ∧ a = tkN es l i.toNat) then .ret (.tup [.int .i64 2, .int .u64 (tkN es l n)]) [] else .fail else .fail
theorem round91 (N : Nat) (es : List SV) (l n : Nat) (m i a : Int) : loopOnce Tryz.prog κ0 ι0 (ltab []) true 300 e91 { e91 with s := boundT numM numLs N } c91 [.qs 0 1 l n, .int .i64 m, .int .i64 i, .int .u64 a] [(0, .seq 5 es)] =
 bif decide (i < m) then bif inB i n then bif decide (l + i.toNat < es.length) then nextN N es l n m (IntKind.i64.wrap (i + 1)) (accS a (dg es (l + i.toNat))) else .fail else .fail else .ret (.tup [.int .i64 2, .int .u64 a]) [] := by kernel_rfl
theorem round91n (N : Nat) (n i a : Int) : loopOnce Tryz.prog κ0 ι0 (ltab []) true 300 e91 { e91 with s := boundT numM numLs N } c91 [.nils, .int .i64 n, .int .i64 i, .int .u64 a] [] = bif decide (i < n) then .fail else .ret (.tup [.int .i64 2, .int .u64 a]) [] := by kernel_rfl
theorem u64_id {n : Int} (h0 : 0 ≤ n) (h1 : n < 18446744073709551616) : IntKind.u64.wrap n = n := by
 simp [IntKind.wrap, IntKind.bits, IntKind.signed]; omega
theorem acc_eq {a x : Int} (h0 : 0 ≤ a) (h1 : a < 72057594037927936) (h2 : 0 ≤ x) (h3 : x ≤ 255) : accS a x = a * 256 + x := by
 obtain ⟨A, rfl⟩ := Int.eq_ofNat_of_zero_le h0
 obtain ⟨X, rfl⟩ := Int.eq_ofNat_of_zero_le h2
 unfold accS
 rw [show (2 : Int) ^ min (8 : Int).toNat IntKind.u64.bits = 256 by decide, u64_id (n := (A : Int) * 256) (by omega) (by omega), u64_id (n := (X : Int)) (by omega) (by omega)]
 have e1 : BitVec.ofInt IntKind.u64.bits ((A : Int) * 256) = BitVec.ofNat 64 (A * 256) := by
  rw [show ((A : Int) * 256) = ((A * 256 : Nat) : Int) by omega]; exact BitVec.ofInt_natCast 64 _
 have e2 : BitVec.ofInt IntKind.u64.bits (X : Int) = BitVec.ofNat 64 X := BitVec.ofInt_natCast 64 _
 rw [e1, e2]
 have e3 : (BitVec.ofNat 64 (A * 256) ||| BitVec.ofNat 64 X).toNat = A * 256 + X := by
  rw [BitVec.toNat_or, BitVec.toNat_ofNat, BitVec.toNat_ofNat, Nat.mod_eq_of_lt (by omega), Nat.mod_eq_of_lt (by omega)]
  have := Nat.shiftLeft_add_eq_or_of_lt (a := A) (b := X) (i := 8) (by omega)
  rw [Nat.shiftLeft_eq] at this
  exact this.symm
 refine (congrArg (fun k : Nat => IntKind.u64.wrap (k : Int)) e3).trans ?_
 rw [u64_id (by omega) (by omega)]
 omega
theorem num_valid : ValidL Tryz.prog e91 := loop_valid (κ := κ0) (ι := ι0) (T := ltab []) (sp := true) (fuel := 300) (c := c91) (μ := numM) (openT_ok noNumTry mixTry ok0 300 5) mixTry ltab_nil (show fillC (ltab []) c91 = c91 by kernel_rfl) (by
 intro N args H r hb hr0
 have hr' : crun (numLs args H) = some r := hr0
 unfold numLs at hr'
 split at hr'
 · rename_i n i a
   rw [crun_ite] at hr'
   cases hc : decide (n ≤ i) with
   | false => rw [hc] at hr'; cases hr'
   | true =>
    rw [hc] at hr'
    rw [← hr']
    have := of_decide_eq_true hc
    refine (congrArg crun (round91n N n i a)).trans ?_
    rw [decide_eq_false (by omega)]; rfl
 · rename_i l n m i a es
   rw [crun_ite] at hr'
   cases hc : dec (m = n ∧ 0 ≤ i ∧ i ≤ n ∧ n ≤ 8 ∧ l + n ≤ es.length ∧ okBy es ∧ a = tkN es l i.toNat) with
   | false => rw [hc] at hr'; cases hr'
   | true =>
    rw [hc] at hr'
    obtain ⟨rfl, h0, h1, h2, h3, h4, rfl⟩ := dec_iff.1 hc
    have hb' : ((n : Int) - i).toNat < N + 1 := by
     have : Nat.blt ((n : Int) - i).toNat (N + 1) = true := hb
     rwa [Nat.blt_eq] at this
    rw [← hr']
    refine (congrArg crun (round91 N es l n n i _)).trans ?_
    by_cases hlt : i < n
    · have hw : IntKind.i64.wrap (i + 1) = i + 1 := w64_id (by omega) (by omega)
      have hin : inB i n = true := by unfold inB; simp; omega
      obtain ⟨t0, t1⟩ := tkN_rng h4 l i.toNat
      obtain ⟨d0, d1⟩ := h4 (l + i.toNat)
      have hp : (256 : Int) ^ i.toNat ≤ 72057594037927936 := by
       have : i.toNat ≤ 7 := by omega
       calc (256 : Int) ^ i.toNat ≤ 256 ^ 7 := by exact_mod_cast Nat.pow_le_pow_right (by decide) this
        _ = 72057594037927936 := by decide
      have hbb : Nat.blt ((n : Int) - (i + 1)).toNat N = true := by rw [Nat.blt_eq]; omega
      rw [decide_eq_true hlt, hin, decide_eq_true (by omega), hw, acc_eq t0 (by omega) d0 d1]
      simp only [cond_true]
      unfold nextN
      rw [hbb, dec_iff.2 ⟨rfl, by omega, by omega, h2, h3, h4, by rw [show (i + 1).toNat = i.toNat + 1 by omega, tkN]⟩]
      rfl
    · have : i.toNat = n := by omega
      rw [decide_eq_false hlt, this]; rfl
 · cases hr')
noncomputable abbrev T91 : LTab := ltab [("n", e91)]
noncomputable def m91 : Code := markC [(4, "n")] body91
theorem fill91 : Tryz.f91.body = some (fillC T91 m91) := by kernel_rfl
noncomputable abbrev num_b : CSumm := bodyCL Tryz.prog κ0 ι0 T91 true 300 Tryz.f91 m91
structure Rd where
 (at_ end_ err fat : Int)
def rH (r : Rd) (n : Nat) (es : List SV) : HpL := [(0, .cells 121 [.int .i64 r.at_, .int .i64 r.end_, .qs 1 1 0 n, .int .i64 r.err, .int .i64 r.fat, .bool true]), (1, .seq 5 es)]
end Go.Proofs.YtdgnhaacdpmclaaGreat
/- Readers: a number by one leaf. -/
namespace Go.Proofs.YtdgnhaacdpmclaaGreat
open Go.Am
set_option maxRecDepth 100000
def rC (r : Rd) (n : Nat) : Chunk := .cells 121 [.int .i64 r.at_, .int .i64 r.end_, .qs 1 1 0 n, .int .i64 r.err, .int .i64 r.fat, .bool true]
def wA (r : Rd) (k : Int) : Int := IntKind.i64.wrap (r.at_ + k)
def wB (r : Rd) (k : Int) : Int := IntKind.i64.wrap (wA r k - k)
def shortB (r : Rd) (k : Int) : Bool := bif decide (k < 0) then true else decide (k > IntKind.i64.wrap (r.end_ - r.at_))
def okSl (r : Rd) (k : Int) (n : Nat) : Bool := decide (0 ≤ wB r k) && decide (wB r k ≤ wA r k) && decide (wA r k ≤ n)
theorem num_t (r : Rd) (n : Nat) (es : List SV) (k : Int) : num_b [.ptr 0 0, .int .i64 k] (rH r n es) =
 bif r.err != 0 then .ret (.int .u64 0) [] else bif shortB r k then (bif r.err == 0 then .ret (.int .u64 0) [(0, some (rC ⟨r.at_, r.end_, 4, r.at_⟩ n))] else .ret (.int .u64 0) []) else
 bif okSl r k n then bif dec (((wA r k).toNat - (wB r k).toNat : Nat) = (((wA r k).toNat - (wB r k).toNat : Nat) : Int) ∧ (0 : Int) ≤ 0 ∧ (0 : Int) ≤ (((wA r k).toNat - (wB r k).toNat : Nat) : Int) ∧ (wA r k).toNat - (wB r k).toNat ≤ 8 ∧ 0 + (wB r k).toNat + ((wA r k).toNat - (wB r k).toNat) ≤ es.length ∧ okBy es ∧ (0 : Int) = tkN es (0 + (wB r k).toNat) (0 : Int).toNat) then
  .ret (.int .u64 (tkN es (0 + (wB r k).toNat) ((wA r k).toNat - (wB r k).toNat))) [(0, some (rC ⟨wA r k, r.end_, r.err, r.fat⟩ n))] else .fail else .fail := by kernel_rfl
def Rd.few (r : Rd) (k : Nat) : Bool := decide ((k : Int) > r.end_ - r.at_)
def Rd.num (r : Rd) (es : List SV) (k : Nat) : Int := bif r.err != 0 then 0 else bif r.few k then 0 else tkN es r.at_.toNat k
def Rd.adv (r : Rd) (k : Nat) : Rd := ⟨bif r.err != 0 then r.at_ else bif r.few k then r.at_ else r.at_ + k, r.end_, bif r.err != 0 then r.err else bif r.few k then 4 else 0, bif r.err != 0 then r.fat else bif r.few k then r.at_ else r.fat⟩
structure OkRd (r : Rd) (es : List SV) : Prop where
 a0 : 0 ≤ r.at_
 a1 : r.at_ ≤ r.end_
 e1 : r.end_ ≤ es.length
 l : es.length ≤ 1000000
 b : okBy es
def rOf : HpL → Option (Rd × Nat × List SV)
 | [(0, .cells 121 [.int .i64 a, .int .i64 e, .qs 1 1 0 n, .int .i64 er, .int .i64 f, .bool true]), (1, .seq 5 es)] => some (⟨a, e, er, f⟩, n, es)
 | _ => none
theorem rOf_h {H : HpL} {r : Rd} {n : Nat} {es : List SV} (h : rOf H = some (r, n, es)) : H = rH r n es := by
 unfold rOf at h
 split at h
 · cases h; rfl
 · cases h
theorem OkRd.adv {r : Rd} {es : List SV} (h : OkRd r es) (k : Nat) : OkRd (r.adv k) es := by
 obtain ⟨h0, h1, h2, h3, h4⟩ := h
 unfold Rd.adv Rd.few
 cases he : r.err != 0 with
 | true => exact ⟨h0, h1, h2, h3, h4⟩
 | false =>
  by_cases hk : (k : Int) > r.end_ - r.at_
  · rw [decide_eq_true hk]; exact ⟨h0, h1, h2, h3, h4⟩
  · rw [decide_eq_false hk]; exact ⟨by simp only [cond_false]; omega, by simp only [cond_false]; omega, h2, h3, h4⟩
theorem rd_facts {r : Rd} {es : List SV} (h : OkRd r es) {k : Nat} (hk : k ≤ 1000000) (hs : r.few k = false) : wA r k = r.at_ + k ∧ wB r k = r.at_ ∧ shortB r k = false ∧ okSl r k es.length = true := by
 obtain ⟨h0, h1, h2, h3, h4⟩ := h
 have hs' : ¬ (k : Int) > r.end_ - r.at_ := of_decide_eq_false hs
 have e1 : wA r k = r.at_ + k := w64_id (by omega) (by omega)
 have e2 : wB r k = r.at_ := by unfold wB; rw [e1]; exact (w64_id (by omega) (by omega)).trans (by omega)
 refine ⟨e1, e2, ?_, ?_⟩
 · unfold shortB; rw [decide_eq_false (by omega), w64_id (by omega) (by omega), decide_eq_false hs']; rfl
 · unfold okSl; rw [e1, e2, decide_eq_true h0, decide_eq_true (by omega), decide_eq_true (by omega)]; rfl
theorem rd_short {r : Rd} {es : List SV} (h : OkRd r es) {k : Nat} (hs : r.few k = true) : shortB r k = true := by
 obtain ⟨h0, h1, h2, h3, h4⟩ := h
 have hs' := of_decide_eq_true hs
 unfold shortB; rw [w64_id (by omega) (by omega), decide_eq_false (by omega), decide_eq_true hs']; rfl
theorem rH_same {r r' : Rd} {n : Nat} {es : List SV} (h : r' = r) : ∀ x, updF [(0, some (rC r' n))] (rH r n es).get x = updF [] (rH r n es).get x := by
 subst h
 intro x
 cases x with
 | zero => rfl
 | succ x => rfl
noncomputable def num_s : CSumm := fun args H => match args with
 | [.ptr 0 0, .int .i64 k] => match rOf H with
  | some (r, n, es) => .ite (dec (OkRd r es ∧ n = es.length ∧ 0 ≤ k ∧ k ≤ 8)) (.ret (.int .u64 (r.num es k.toNat)) [(0, some (rC (r.adv k.toNat) n))]) .fail
  | none => .fail
 | _ => .fail
theorem num_k : Known Tryz.prog 91 num_s := known_ren (show Known Tryz.prog 91 num_b from ⟨⟨Tryz.f91, Tryz.func91, noNum_at noNumTry Tryz.func91, rfl⟩, bodyL_valid (openT_ok noNumTry mixTry ok0 300 5) mixTry (ltab_cons num_valid ltab_nil) Tryz.func91 fill91⟩) (by
 intro args H v ups h
 left
 unfold num_s at h
 split at h
 · rename_i k
   split at h
   · rename_i r n es hr
     rw [crun_ite] at h
     cases hc : dec (OkRd r es ∧ n = es.length ∧ 0 ≤ k ∧ k ≤ 8) with
     | false => rw [hc] at h; cases h
     | true =>
      rw [hc] at h
      obtain ⟨ho, rfl, k0, k8⟩ := dec_iff.1 hc
      obtain ⟨j, rfl⟩ := Int.eq_ofNat_of_zero_le k0
      rw [rOf_h hr]
      have ht := num_t r es.length es j
      cases h
      rw [ht]
      show ∃ ups, _ ∧ ∀ x, updF [(0, some (rC (r.adv j) es.length))] _ x = _
      show ∃ ups, crun _ = some (.int .u64 (r.num es j), ups) ∧ _
      unfold Rd.num Rd.adv
      cases he : r.err != 0 with
      | true => exact ⟨[], rfl, rH_same (by simp)⟩
      | false =>
       have he0 : r.err = 0 := by simpa using he
       cases hs : r.few j with
       | true =>
        rw [rd_short ho hs, he0]
        exact ⟨_, rfl, fun x => rfl⟩
       | false =>
        obtain ⟨e1, e2, e3, e4⟩ := rd_facts ho (show j ≤ 1000000 by omega) hs
        have hs' : ¬ (j : Int) > r.end_ - r.at_ := of_decide_eq_false hs
        have h1 := ho.a0; have h2 := ho.e1
        have hj : (r.at_ + (j : Int)).toNat - r.at_.toNat = j := by omega
        rw [e3, e4, e1, e2, hj, he0, Nat.zero_add, dec_iff.2 ⟨rfl, by omega, by omega, by omega, by omega, ho.b, rfl⟩]
        exact ⟨_, rfl, fun x => rfl⟩
   · cases h
 · cases h)
end Go.Proofs.YtdgnhaacdpmclaaGreat
/- Readers: bytes, identifiers. -/
namespace Go.Proofs.YtdgnhaacdpmclaaGreat
open Go.Am
set_option maxRecDepth 100000
def wN (r : Rd) (k : Int) : Nat := (wA r k).toNat - (wB r k).toNat
noncomputable def lenO (k : Nat) : Bool := decide (k ≤ 9223372036854775807) && decide (k * Tryz.prog.types[5].bytes ≤ 140737488355328)
noncomputable def byK (r' : Rd) (n : Nat) (xs : List SV) : CTree := bif lenO (([] : List SV).length + xs.length) then .ret (.qs 2 1 0 (([] : List SV).length + xs.length)) [(0, some (rC r' n)), (2, some (.seq 5 ([] ++ xs)))] else .fail
theorem byR_t (r : Rd) (n : Nat) (es : List SV) (k : Int) : opn (tbl []) Tryz.f67 [.ptr 0 0, .int .i64 k] (rH r n es) =
 bif r.err != 0 then .ret (.qs 2 1 0 0) [(2, some (.seq 5 []))] else bif shortB r k then (bif r.err == 0 then .ret (.qs 2 1 0 0) [(0, some (rC ⟨r.at_, r.end_, 4, r.at_⟩ n)), (2, some (.seq 5 []))] else .ret (.qs 2 1 0 0) [(2, some (.seq 5 []))]) else
 bif okSl r k n then bif decide (0 + (wB r k).toNat = 0) && decide (wN r k = es.length) then byK ⟨wA r k, r.end_, r.err, r.fat⟩ n es else
  bif decide (0 + (wB r k).toNat + wN r k ≤ es.length) then byK ⟨wA r k, r.end_, r.err, r.fat⟩ n ((es.drop (0 + (wB r k).toNat)).take (wN r k)) else .fail else .fail := by kernel_rfl
theorem types5 : Tryz.prog.types[5].bytes = 1 := by kernel_rfl
theorem lenO_t {k : Nat} (h : k ≤ 1000000) : lenO k = true := by
 unfold lenO; rw [types5, decide_eq_true (by omega), decide_eq_true (by omega)]; rfl
def Rd.sub (r : Rd) (es : List SV) (k : Nat) : List SV := bif r.err != 0 then [] else bif r.few k then [] else (es.drop r.at_.toNat).take k
theorem sub_len (r : Rd) (es : List SV) (k : Nat) : (r.sub es k).length ≤ k := by
 unfold Rd.sub
 cases r.err != 0 with
 | true => simp
 | false => cases r.few k <;> simp <;> omega
noncomputable def byR_s : CSumm := fun args H => match args with
 | [.ptr 0 0, .int .i64 k] => match rOf H with
  | some (r, n, es) => .ite (dec (OkRd r es ∧ n = es.length ∧ 0 ≤ k ∧ k ≤ 1000000)) (.ret (.qs 2 1 0 (r.sub es k.toNat).length) [(0, some (rC (r.adv k.toNat) n)), (2, some (.seq 5 (r.sub es k.toNat)))]) .fail
  | none => .fail
 | _ => .fail
theorem rH_same2 {r r' : Rd} {n : Nat} {es : List SV} {c : Chunk} (h : r' = r) : ∀ x, updF [(0, some (rC r' n)), (2, some c)] (rH r n es).get x = updF [(2, some c)] (rH r n es).get x := by
 subst h
 intro x
 match x with
 | 0 => rfl
 | 1 => rfl
 | 2 => rfl
 | x + 3 => rfl
theorem byR_k : Known Tryz.prog 67 byR_s := known_ren (openKnown ok0 Tryz.func67 rfl) (by
 intro args H v ups h
 left
 unfold byR_s at h
 split at h
 · rename_i k
   split at h
   · rename_i r n es hr
     rw [crun_ite] at h
     cases hc : dec (OkRd r es ∧ n = es.length ∧ 0 ≤ k ∧ k ≤ 1000000) with
     | false => rw [hc] at h; cases h
     | true =>
      rw [hc] at h
      obtain ⟨ho, rfl, k0, k8⟩ := dec_iff.1 hc
      obtain ⟨j, rfl⟩ := Int.eq_ofNat_of_zero_le k0
      rw [rOf_h hr]
      have ht := byR_t r es.length es j
      cases h
      rw [ht]
      show ∃ ups, crun _ = some (.qs 2 1 0 (r.sub es j).length, ups) ∧ ∀ x, updF [(0, some (rC (r.adv j) es.length)), (2, some (.seq 5 (r.sub es j)))] _ x = _
      unfold Rd.sub Rd.adv
      cases he : r.err != 0 with
      | true => exact ⟨_, rfl, rH_same2 (by simp)⟩
      | false =>
       have he0 : r.err = 0 := by simpa using he
       cases hs : r.few j with
       | true =>
        rw [rd_short ho hs, he0]
        exact ⟨_, rfl, fun x => rfl⟩
       | false =>
        obtain ⟨e1, e2, e3, e4⟩ := rd_facts ho (show j ≤ 1000000 by omega) hs
        have hs' : ¬ (j : Int) > r.end_ - r.at_ := of_decide_eq_false hs
        have h1 := ho.a0; have h2 := ho.e1; have h3 := ho.l
        have hn : wN r j = j := by unfold wN; rw [e1, e2]; omega
        rw [e3, e4, e1, e2, hn, he0, Nat.zero_add]
        simp only [cond_false, cond_true]
        have hl : ((es.drop r.at_.toNat).take j).length = j := by rw [List.length_take, List.length_drop]; omega
        have hb : ∀ xs : List SV, xs.length ≤ 1000000 → byK ⟨r.at_ + j, r.end_, 0, r.fat⟩ es.length xs = .ret (.qs 2 1 0 xs.length) [(0, some (rC ⟨r.at_ + j, r.end_, 0, r.fat⟩ es.length)), (2, some (.seq 5 xs))] := by
         intro xs hx
         unfold byK
         rw [List.length_nil, Nat.zero_add, lenO_t hx]; rfl
        by_cases hd : r.at_.toNat = 0 ∧ j = es.length
        · have hes : (es.drop r.at_.toNat).take j = es := by rw [hd.1, hd.2]; simp
          rw [hes, decide_eq_true hd.1, decide_eq_true hd.2, hb es (by omega)]
          exact ⟨_, rfl, fun x => rfl⟩
        · have hf : (decide (r.at_.toNat = 0) && decide (j = es.length)) = false := by
            cases h5 : decide (r.at_.toNat = 0) <;> cases h6 : decide (j = es.length) <;> simp_all
          rw [hf, cond_false, decide_eq_true (by omega), cond_true, hb _ (by omega)]
          exact ⟨_, rfl, fun x => rfl⟩
   · cases h
 · cases h)
def idB (xs : List SV) (j : Nat) : Int := bif Nat.blt j xs.length then asI (xs.getD j .junk) else 0
def idV (xs : List SV) : SV := .agg [.int .u8 (idB xs 0), .int .u8 (idB xs 1), .int .u8 (idB xs 2), .int .u8 (idB xs 3), .int .u8 (idB xs 4), .int .u8 (idB xs 5), .int .u8 (idB xs 6), .int .u8 (idB xs 7), .int .u8 (idB xs 8), .int .u8 (idB xs 9)]
noncomputable abbrev κi := tbl [(91, num_s), (67, byR_s)]
theorem iOk : KOk Tryz.prog κi := tbl_cons num_k (tbl_cons byR_k ok0)
end Go.Proofs.YtdgnhaacdpmclaaGreat
/- Readers: an identifier, a host. -/
namespace Go.Proofs.YtdgnhaacdpmclaaGreat
open Go.Am
set_option maxRecDepth 100000
def idT (r' : Rd) (n : Nat) (xs : List SV) : CTree := bif decide (xs.length ≤ ((10 : Nat) : Int).toNat - (0 : Int).toNat) then .ret (idV xs) [(0, some (rC r' n))] else .fail
theorem id_t (r : Rd) (n : Nat) (es : List SV) : opn κi Tryz.f139 [.ptr 0 0] (rH r n es) =
 bif dec (OkRd r es ∧ n = es.length ∧ (0 : Int) ≤ 10 ∧ (10 : Int) ≤ 1000000) then bif decide (0 = 0) && decide ((r.sub es 10).length = (r.sub es 10).length) then idT (r.adv 10) n (r.sub es 10)
  else bif decide (0 + (r.sub es 10).length ≤ (r.sub es 10).length) then idT (r.adv 10) n (((r.sub es 10).drop 0).take (r.sub es 10).length) else .fail else .fail := by kernel_rfl
noncomputable def id_s : CSumm := fun args H => match args with
 | [.ptr 0 0] => match rOf H with
  | some (r, n, es) => .ite (dec (OkRd r es ∧ n = es.length)) (.ret (idV (r.sub es 10)) [(0, some (rC (r.adv 10) n))]) .fail
  | none => .fail
 | _ => .fail
theorem id_k : Known Tryz.prog 139 id_s := (openKnown iOk Tryz.func139 rfl).weak (by
 intro args H v ups h
 unfold id_s at h
 split at h
 · split at h
   · rename_i r n es hr
     rw [crun_ite] at h
     cases hc : dec (OkRd r es ∧ n = es.length) with
     | false => rw [hc] at h; cases h
     | true =>
      rw [hc] at h
      obtain ⟨ho, rfl⟩ := dec_iff.1 hc
      have hl := sub_len r es 10
      have hm : ((10 : Nat) : Int).toNat - (0 : Int).toNat = 10 := rfl
      rw [rOf_h hr, id_t, dec_iff.2 ⟨ho, rfl, by omega, by omega⟩, decide_eq_true rfl, decide_eq_true rfl]
      simp only [Bool.and_self, cond_true]
      unfold idT
      rw [decide_eq_true (by rw [hm]; exact hl)]
      exact h
   · cases h
 · cases h)
def nC (n : Nl) : Chunk := .cells 49 [.int .i64 n.kind, .int .u64 n.rd, .int .u8 n.e0, .int .u8 n.e1, .int .u8 n.e2, .int .u8 n.e3, .int .u8 n.e4, .int .u8 n.e5, .int .u8 n.e6, .int .u8 n.e7, .int .u8 n.e8, .int .u8 n.e9, .int .u32 n.tag, .int .u64 n.mac, .int .u32 n.ip, .bool n.hip, .int .u32 n.pip, .int .i64 n.plen, .int .u32 n.gw, .int .u32 n.lab, .int .u32 n.lab2]
def gH (r : Rd) (m : Nat) (es : List SV) (n : Nl) : HpL := [(0, .cells 121 [.int .i64 r.at_, .int .i64 r.end_, .qs 1 1 0 m, .int .i64 r.err, .int .i64 r.fat, .bool true]), (1, .seq 5 es), (2, nC n)]
def gOf : HpL → Option (Rd × Nat × List SV × Nl)
 | [(0, .cells 121 [.int .i64 a, .int .i64 e, .qs 1 1 0 m, .int .i64 er, .int .i64 f, .bool true]), (1, .seq 5 es), (2, .cells 49 [.int .i64 kind, .int .u64 rd, .int .u8 e0, .int .u8 e1, .int .u8 e2, .int .u8 e3, .int .u8 e4, .int .u8 e5, .int .u8 e6, .int .u8 e7, .int .u8 e8, .int .u8 e9, .int .u32 tag, .int .u64 mac, .int .u32 ip, .bool hip, .int .u32 pip, .int .i64 plen, .int .u32 gw, .int .u32 lab, .int .u32 lab2])] => some (⟨a, e, er, f⟩, m, es, ⟨kind, rd, e0, e1, e2, e3, e4, e5, e6, e7, e8, e9, tag, mac, ip, hip, pip, plen, gw, lab, lab2⟩)
 | _ => none
theorem gOf_h {H : HpL} {r : Rd} {m : Nat} {es : List SV} {n : Nl} (h : gOf H = some (r, m, es, n)) : H = gH r m es n := by
 unfold gOf at h
 split at h
 · cases h; rfl
 · cases h
abbrev w3 (n : Int) : Int := IntKind.u32.wrap n
noncomputable def rdC (r : Rd) (m : Nat) (es : List SV) (k : Int) (K : CTree) : CTree := bif dec (OkRd r es ∧ m = es.length ∧ 0 ≤ k ∧ k ≤ 8) then K else .fail
noncomputable abbrev κh := tbl [(91, num_s), (139, id_s)]
theorem hOk : KOk Tryz.prog κh := tbl_cons num_k (tbl_cons id_k ok0)
theorem host_t (r : Rd) (m : Nat) (es : List SV) (n : Nl) : opn κh Tryz.f144 [.ptr 0 0, .ptr 2 0] (gH r m es n) =
 rdC r m es 1 (bif r.num es 1 == 32 then rdC (r.adv 1) m es 4 (.ret (.tup []) [(2, some (nC { n with hip := true, ip := w3 ((r.adv 1).num es 4) })), (0, some (rC ((r.adv 1).adv 4) m))]) else .ret (.tup []) [(0, some (rC (r.adv 1) m))]) := by kernel_rfl
def hostN (es : List SV) (r : Rd) (n : Nl) : Nl := { n with hip := bif r.num es 1 == 32 then true else n.hip, ip := bif r.num es 1 == 32 then w3 ((r.adv 1).num es 4) else n.ip }
def hostR (es : List SV) (r : Rd) : Rd := bif r.num es 1 == 32 then (r.adv 1).adv 4 else r.adv 1
theorem hostR_ok {r : Rd} {es : List SV} (h : OkRd r es) : OkRd (hostR es r) es := by
 unfold hostR
 cases r.num es 1 == 32
 · exact h.adv 1
 · exact (h.adv 1).adv 4
theorem gH_same {r : Rd} {m : Nat} {es : List SV} {n n' : Nl} {c : Chunk} (h : n' = n) : ∀ x, updF [(2, some (nC n')), (0, some c)] (gH r m es n).get x = updF [(0, some c)] (gH r m es n).get x := by
 subst h
 intro x
 match x with
 | 0 => rfl
 | 1 => rfl
 | 2 => rfl
 | x + 3 => rfl
noncomputable def host_s : CSumm := fun args H => match args with
 | [.ptr 0 0, .ptr 2 0] => match gOf H with
  | some (r, m, es, n) => .ite (dec (OkRd r es ∧ m = es.length)) (.ret (.tup []) [(2, some (nC (hostN es r n))), (0, some (rC (hostR es r) m))]) .fail
  | none => .fail
 | _ => .fail
theorem rdC_ok {r : Rd} {m : Nat} {es : List SV} {k : Int} {K : CTree} (h : OkRd r es) (hm : m = es.length) (h0 : 0 ≤ k) (h1 : k ≤ 8) : rdC r m es k K = K := by
 unfold rdC; rw [dec_iff.2 ⟨h, hm, h0, h1⟩]; rfl
theorem host_k : Known Tryz.prog 144 host_s := known_ren (openKnown hOk Tryz.func144 rfl) (by
 intro args H v ups h
 left
 unfold host_s at h
 split at h
 · split at h
   · rename_i r m es n hr
     rw [crun_ite] at h
     cases hc : dec (OkRd r es ∧ m = es.length) with
     | false => rw [hc] at h; cases h
     | true =>
      rw [hc] at h
      obtain ⟨ho, rfl⟩ := dec_iff.1 hc
      rw [gOf_h hr, host_t, rdC_ok ho rfl (by omega) (by omega)]
      cases h
      unfold hostN hostR
      cases r.num es 1 == 32 with
      | true => rw [cond_true, rdC_ok (ho.adv 1) rfl (by omega) (by omega)]; exact ⟨_, rfl, fun x => rfl⟩
      | false => exact ⟨_, rfl, gH_same rfl⟩
   · cases h
 · cases h)
noncomputable abbrev κg := tbl [(91, num_s), (139, id_s), (144, host_s)]
theorem gOk : KOk Tryz.prog κg := tbl_cons num_k (tbl_cons id_k (tbl_cons host_k ok0))
noncomputable def idC (r : Rd) (m : Nat) (es : List SV) (K : CTree) : CTree := bif dec (OkRd r es ∧ m = es.length) then K else .fail
theorem idC_ok {r : Rd} {m : Nat} {es : List SV} {K : CTree} (h : OkRd r es) (hm : m = es.length) : idC r m es K = K := by
 unfold idC; rw [dec_iff.2 ⟨h, hm⟩]; rfl
def ids (xs : List SV) (n : Nl) : Nl := { n with e0 := idB xs 0, e1 := idB xs 1, e2 := idB xs 2, e3 := idB xs 3, e4 := idB xs 4, e5 := idB xs 5, e6 := idB xs 6, e7 := idB xs 7, e8 := idB xs 8, e9 := idB xs 9 }
def fin2 (n : Nl) (r : Rd) (m : Nat) : CTree := .ret (.tup []) [(2, some (nC n)), (0, some (rC r m))]
def gA : List SV := [.agg [], .ptr 0 0, .ptr 2 0]
/- What each kind's value is read as. -/
def g1N (es : List SV) (r : Rd) (n : Nl) : Nl := { (ids ((r.adv 8).sub es 10) n) with rd := r.num es 8, tag := w3 (((r.adv 8).adv 10).num es 4), lab := w3 ((((r.adv 8).adv 10).adv 4).num es 3) }
def g1R (r : Rd) : Rd := (((r.adv 8).adv 10).adv 4).adv 3
theorem get1_t (r : Rd) (m : Nat) (es : List SV) (n : Nl) : opn κg Tryz.f136 gA (gH r m es n) =
 rdC r m es 8 (idC (r.adv 8) m es (rdC ((r.adv 8).adv 10) m es 4 (rdC (((r.adv 8).adv 10).adv 4) m es 3 (fin2 (g1N es r n) (g1R r) m)))) := by kernel_rfl
def g3N (es : List SV) (r : Rd) (n : Nl) : Nl := hostN es ((r.adv 8).adv 4) { n with rd := r.num es 8, tag := w3 ((r.adv 8).num es 4) }
def g3R (es : List SV) (r : Rd) : Rd := hostR es ((r.adv 8).adv 4)
theorem get3_t (r : Rd) (m : Nat) (es : List SV) (n : Nl) : opn κg Tryz.f147 gA (gH r m es n) =
 rdC r m es 8 (rdC (r.adv 8) m es 4 (idC ((r.adv 8).adv 4) m es (fin2 (g3N es r n) (g3R es r) m))) := by kernel_rfl
def g4N (es : List SV) (r : Rd) (n : Nl) : Nl := hostN es ((r.adv 8).adv 10) { (ids ((r.adv 8).sub es 10) n) with rd := r.num es 8 }
def g4R (es : List SV) (r : Rd) : Rd := hostR es ((r.adv 8).adv 10)
theorem get4_t (r : Rd) (m : Nat) (es : List SV) (n : Nl) : opn κg Tryz.f149 gA (gH r m es n) =
 rdC r m es 8 (idC (r.adv 8) m es (idC ((r.adv 8).adv 10) m es (fin2 (g4N es r n) (g4R es r) m))) := by kernel_rfl
def g5r (r : Rd) : Rd := ((r.adv 8).adv 10).adv 4
def g5N (es : List SV) (r : Rd) (n : Nl) : Nl := { (ids ((r.adv 8).sub es 10) n) with rd := r.num es 8, tag := w3 (((r.adv 8).adv 10).num es 4), plen := IntKind.i64.wrap ((g5r r).num es 1), pip := w3 (((g5r r).adv 1).num es 4), gw := w3 ((((g5r r).adv 1).adv 4).num es 4), lab := w3 (((((g5r r).adv 1).adv 4).adv 4).num es 3) }
def g5R (r : Rd) : Rd := ((((g5r r).adv 1).adv 4).adv 4).adv 3
theorem get5_t (r : Rd) (m : Nat) (es : List SV) (n : Nl) : opn κg Tryz.f151 gA (gH r m es n) =
 rdC r m es 8 (idC (r.adv 8) m es (rdC ((r.adv 8).adv 10) m es 4 (rdC (g5r r) m es 1 (rdC ((g5r r).adv 1) m es 4 (rdC (((g5r r).adv 1).adv 4) m es 4 (rdC ((((g5r r).adv 1).adv 4).adv 4) m es 3 (fin2 (g5N es r n) (g5R r) m))))))) := by kernel_rfl
def g2r (es : List SV) (r : Rd) : Rd := hostR es ((((((r.adv 8).adv 10).adv 4).adv 1).adv 6))
def g2n (es : List SV) (r : Rd) (n : Nl) : Nl := hostN es ((((((r.adv 8).adv 10).adv 4).adv 1).adv 6)) { (ids ((r.adv 8).sub es 10) n) with rd := r.num es 8, tag := w3 (((r.adv 8).adv 10).num es 4), mac := ((((r.adv 8).adv 10).adv 4).adv 1).num es 6 }
def left (r : Rd) : Int := IntKind.i64.wrap (r.end_ - r.at_)
theorem get2_t (r : Rd) (m : Nat) (es : List SV) (n : Nl) : opn κg Tryz.f141 gA (gH r m es n) =
 rdC r m es 8 (idC (r.adv 8) m es (rdC ((r.adv 8).adv 10) m es 4 (rdC (((r.adv 8).adv 10).adv 4) m es 1 (rdC ((((r.adv 8).adv 10).adv 4).adv 1) m es 6 (idC (((((r.adv 8).adv 10).adv 4).adv 1).adv 6) m es (rdC (g2r es r) m es 3
  (bif decide (left ((g2r es r).adv 3) > 0) then rdC ((g2r es r).adv 3) m es 3 (fin2 { (g2n es r n) with lab := w3 ((g2r es r).num es 3), lab2 := w3 (((g2r es r).adv 3).num es 3) } (((g2r es r).adv 3).adv 3) m)
   else fin2 { (g2n es r n) with lab := w3 ((g2r es r).num es 3) } ((g2r es r).adv 3) m))))))) := by kernel_rfl
def g2N (es : List SV) (r : Rd) (n : Nl) : Nl := { (g2n es r n) with lab := w3 ((g2r es r).num es 3), lab2 := bif decide (left ((g2r es r).adv 3) > 0) then w3 (((g2r es r).adv 3).num es 3) else (g2n es r n).lab2 }
def g2R (es : List SV) (r : Rd) : Rd := bif decide (left ((g2r es r).adv 3) > 0) then ((g2r es r).adv 3).adv 3 else (g2r es r).adv 3
noncomputable def get_s (N : List SV → Rd → Nl → Nl) (R : List SV → Rd → Rd) : CSumm := fun args H => match args with
 | [.agg [], .ptr 0 0, .ptr 2 0] => match gOf H with
  | some (r, m, es, n) => .ite (dec (OkRd r es ∧ m = es.length)) (fin2 (N es r n) (R es r) m) .fail
  | none => .fail
 | _ => .fail
theorem get_of {f : Nat} {fn : Func} (hf : Tryz.prog.funcs[f]? = some fn) (hb : fn.body.isNone = false) {N : List SV → Rd → Nl → Nl} {R : List SV → Rd → Rd}
  (h : ∀ (r : Rd) (es : List SV) (n : Nl), OkRd r es → opn κg fn gA (gH r es.length es n) = fin2 (N es r n) (R es r) es.length) : Known Tryz.prog f (get_s N R) := (openKnown gOk hf hb).weak (by
 intro args H v ups hr
 unfold get_s at hr
 split at hr
 · split at hr
   · rename_i r m es n hg
     rw [crun_ite] at hr
     cases hc : dec (OkRd r es ∧ m = es.length) with
     | false => rw [hc] at hr; cases hr
     | true =>
      rw [hc] at hr
      obtain ⟨ho, rfl⟩ := dec_iff.1 hc
      rw [gOf_h hg]
      exact (congrArg crun (h r es n ho)).trans hr
   · cases hr
 · cases hr)
theorem get1_k : Known Tryz.prog 136 (get_s g1N (fun _ r => g1R r)) := get_of Tryz.func136 rfl (fun r es n h => by
 rw [get1_t, rdC_ok h rfl (by omega) (by omega), idC_ok (h.adv _) rfl, rdC_ok ((h.adv _).adv _) rfl (by omega) (by omega), rdC_ok (((h.adv _).adv _).adv _) rfl (by omega) (by omega)])
theorem get3_k : Known Tryz.prog 147 (get_s g3N g3R) := get_of Tryz.func147 rfl (fun r es n h => by
 rw [get3_t, rdC_ok h rfl (by omega) (by omega), rdC_ok (h.adv _) rfl (by omega) (by omega), idC_ok ((h.adv _).adv _) rfl])
theorem get4_k : Known Tryz.prog 149 (get_s g4N g4R) := get_of Tryz.func149 rfl (fun r es n h => by
 rw [get4_t, rdC_ok h rfl (by omega) (by omega), idC_ok (h.adv _) rfl, idC_ok ((h.adv _).adv _) rfl])
theorem get5_k : Known Tryz.prog 151 (get_s g5N (fun _ r => g5R r)) := get_of Tryz.func151 rfl (fun r es n h => by
 have h5 : OkRd (g5r r) es := ((h.adv _).adv _).adv _
 rw [get5_t, rdC_ok h rfl (by omega) (by omega), idC_ok (h.adv _) rfl, rdC_ok ((h.adv _).adv _) rfl (by omega) (by omega), rdC_ok h5 rfl (by omega) (by omega), rdC_ok (h5.adv _) rfl (by omega) (by omega), rdC_ok ((h5.adv _).adv _) rfl (by omega) (by omega), rdC_ok (((h5.adv _).adv _).adv _) rfl (by omega) (by omega)])
theorem get2_k : Known Tryz.prog 141 (get_s g2N g2R) := get_of Tryz.func141 rfl (fun r es n h => by
 have h6 : OkRd (((((r.adv 8).adv 10).adv 4).adv 1).adv 6) es := ((((h.adv _).adv _).adv _).adv _).adv _
 have h7 : OkRd (g2r es r) es := hostR_ok h6
 rw [get2_t, rdC_ok h rfl (by omega) (by omega), idC_ok (h.adv _) rfl, rdC_ok ((h.adv _).adv _) rfl (by omega) (by omega), rdC_ok (((h.adv _).adv _).adv _) rfl (by omega) (by omega), rdC_ok ((((h.adv _).adv _).adv _).adv _) rfl (by omega) (by omega), idC_ok h6 rfl, rdC_ok h7 rfl (by omega) (by omega)]
 unfold g2N g2R
 cases decide (left ((g2r es r).adv 3) > 0) with
 | true => rw [cond_true, rdC_ok (h7.adv _) rfl (by omega) (by omega)]; rfl
 | false => rfl)
end Go.Proofs.YtdgnhaacdpmclaaGreat
/- Routes are decoded. -/
namespace Go.Proofs.YtdgnhaacdpmclaaGreat
open Go.Am
set_option maxRecDepth 100000
noncomputable def nrK (n : Nat) (xs : List SV) : CTree := bif lenO (([] : List SV).length + xs.length) then .ret (.ptr 1 0) [(1, some (.cells 121 [.int .i64 0, .int .i64 n, .qs 2 1 0 (([] : List SV).length + xs.length), .int .i64 0, .int .i64 0, .bool true])), (2, some (.seq 5 ([] ++ xs)))] else .fail
theorem nr_t (l n : Nat) (es : List SV) : opn (tbl []) Tryz.f22 [.qs 0 1 l n] [(0, .seq 5 es)] = bif decide (l = 0) && decide (n = es.length) then nrK n es else bif decide (l + n ≤ es.length) then nrK n ((es.drop l).take n) else .fail := by kernel_rfl
def sl (es : List SV) (l n : Nat) : List SV := (es.drop l).take n
theorem sl_len {es : List SV} {l n : Nat} (h : l + n ≤ es.length) : (sl es l n).length = n := by
 unfold sl; rw [List.length_take, List.length_drop]; omega
def nr_s : CSumm := fun args H => match args, H with
 | [.qs 0 1 l n], [(0, .seq 5 es)] => .ite (decide (l + n ≤ es.length ∧ n ≤ 1000000)) (.ret (.ptr 1 0) [(1, some (.cells 121 [.int .i64 0, .int .i64 n, .qs 2 1 0 n, .int .i64 0, .int .i64 0, .bool true])), (2, some (.seq 5 (sl es l n)))]) .fail
 | _, _ => .fail
theorem nr_k : Known Tryz.prog 22 nr_s := (openKnown ok0 Tryz.func22 rfl).weak (by
 intro args H v ups h
 unfold nr_s at h
 split at h
 · rename_i l n es
   rw [crun_ite] at h
   cases hc : decide (l + n ≤ es.length ∧ n ≤ 1000000) with
   | false => rw [hc] at h; cases h
   | true =>
    rw [hc] at h
    obtain ⟨h1, h2⟩ := of_decide_eq_true hc
    have hs := sl_len h1
    have hk : ∀ xs : List SV, xs = sl es l n → nrK n xs = .ret (.ptr 1 0) [(1, some (.cells 121 [.int .i64 0, .int .i64 n, .qs 2 1 0 n, .int .i64 0, .int .i64 0, .bool true])), (2, some (.seq 5 (sl es l n)))] := by
     rintro xs rfl
     unfold nrK
     rw [List.length_nil, Nat.zero_add, hs, lenO_t h2]; rfl
    rw [nr_t]
    by_cases hd : l = 0 ∧ n = es.length
    · rw [decide_eq_true hd.1, decide_eq_true hd.2, hk es (by unfold sl; rw [hd.1, hd.2]; simp)]
      exact h
    · have hf : (decide (l = 0) && decide (n = es.length)) = false := by
        cases h5 : decide (l = 0) <;> cases h6 : decide (n = es.length) <;> simp_all
      rw [hf, cond_false, decide_eq_true h1, cond_true, hk ((es.drop l).take n) rfl]
      exact h
 · cases h)
noncomputable abbrev κd2 := tbl [(22, nr_s), (136, get_s g1N (fun _ r => g1R r)), (141, get_s g2N g2R), (147, get_s g3N g3R), (149, get_s g4N g4R), (151, get_s g5N (fun _ r => g5R r)), (79, check_s), (100, encode_s)]
theorem d2Ok : KOk Tryz.prog κd2 := tbl_cons nr_k (tbl_cons get1_k (tbl_cons get2_k (tbl_cons get3_k (tbl_cons get4_k (tbl_cons get5_k (tbl_cons ncheck_k (tbl_cons encode_k ok0)))))))
def cM : Chunk := .mpc [.int .i64 1, .int .i64 2, .int .i64 3, .int .i64 4, .int .i64 5] [.iface 171 (.agg []), .iface 172 (.agg []), .iface 173 (.agg []), .iface 174 (.agg []), .iface 175 (.agg [])]
def zN : Nl := ⟨0, 0, 0, 0, 0, 0, 0, 0, 0, 0, 0, 0, 0, 0, 0, false, 0, 0, 0, 0, 0⟩
def zK (k : Int) : Nl := { zN with kind := k }
def errD (e : Int) : CTree := .ret (.tup [zN.v, .int .i64 e]) []
def strG (x : List SV) (K : List UInt8 → CTree) : CTree := bif decide (0 = 0) && decide (x.length = x.length) then K (x.map Am.byteOf) else bif decide (0 + x.length ≤ x.length) then K (((x.drop 0).take x.length).map Am.byteOf) else .fail
def strQ (es : List SV) (l n : Nat) (K : List UInt8 → CTree) : CTree := bif decide (l = 0) && decide (n = es.length) then K (es.map Am.byteOf) else bif decide (l + n ≤ es.length) then K (((es.drop l).take n).map Am.byteOf) else .fail
noncomputable def kindK2 (val : Nl → List SV) (n1 : Nl) (r1 : Rd) (es : List SV) (l n : Nat) : CTree :=
 bif r1.err != 0 then errD 3 else bif decide (left r1 > 0) then errD 3 else bif chk n1 != 0 then errD 3 else bif decide (OkP n1) then
  strG (encL val n1) (fun a => strQ es l n (fun b => bif !(a == b) then errD 3 else .ret (.tup [n1.v, .int .i64 0]) [])) else .fail
noncomputable def kindK (val : Nl → List SV) (N : List SV → Rd → Nl → Nl) (R : List SV → Rd → Rd) (es : List SV) (l n : Nat) (kd : Int) : CTree :=
 bif decide ((0 : Int) ≤ 2) && decide ((2 : Int) ≤ n) && decide ((n : Int) ≤ n) then bif decide (l + 2 + ((n : Int).toNat - 2) ≤ es.length ∧ (n : Int).toNat - 2 ≤ 1000000) then
  bif dec (OkRd ⟨0, ((n : Int).toNat - 2 : Nat), 0, 0⟩ (sl es (l + 2) ((n : Int).toNat - 2)) ∧ (n : Int).toNat - 2 = (sl es (l + 2) ((n : Int).toNat - 2)).length) then
   kindK2 val (N (sl es (l + 2) ((n : Int).toNat - 2)) ⟨0, ((n : Int).toNat - 2 : Nat), 0, 0⟩ (zK kd)) (R (sl es (l + 2) ((n : Int).toNat - 2)) ⟨0, ((n : Int).toNat - 2 : Nat), 0, 0⟩) es l n
  else .fail else .fail else .fail
noncomputable def kindsK (es : List SV) (l n : Nat) (kd : Int) : CTree :=
 bif kd == 1 then kindK val1 g1N (fun _ r => g1R r) es l n kd else bif kd == 2 then kindK val2 g2N g2R es l n kd else bif kd == 3 then kindK val3 g3N g3R es l n kd else bif kd == 4 then kindK val4 g4N g4R es l n kd else bif kd == 5 then kindK val5 g5N (fun _ r => g5R r) es l n kd else errD 6
theorem dec_t (l n : Nat) (es : List SV) : opn κd2 Tryz.f107 [.qs 0 1 l n, .mp 1] [(0, .seq 5 es), (1, cM)] =
 bif decide ((n : Int) < 2) then errD 4 else bif inB 1 n then bif decide (l + 1 < es.length) then bif decide ((n : Int) < IntKind.i64.wrap (2 + IntKind.i64.wrap (dg es (l + 1)))) then errD 4 else
 bif inB 0 n then bif decide (l + 0 < es.length) then kindsK es l n (IntKind.i64.wrap (dg es (l + 0))) else .fail else .fail else .fail else .fail := by kernel_rfl
end Go.Proofs.YtdgnhaacdpmclaaGreat
