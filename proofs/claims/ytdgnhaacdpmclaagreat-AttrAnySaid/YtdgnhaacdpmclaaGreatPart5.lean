/- Routes: their bytes. -/
import Derived.Test.YtdgnhaacdpmclaaGreatPart4
import Derived.Test.YtdgnhaacdpmclaaGreatMachine7
set_option linter.unusedVariables false
set_option linter.unusedSimpArgs false
namespace Go.Proofs.YtdgnhaacdpmclaaGreat
open Go.Am
set_option maxRecDepth 100000
noncomputable abbrev κc := tbl [(79, check_s), (137, cput_s val1), (142, cput_s val2), (148, cput_s val3), (150, cput_s val4), (152, cput_s val5), (36, out_s)]
theorem cOk : KOk Tryz.prog κc := tbl_cons ncheck_k (tbl_cons cput_k1 (tbl_cons cput_k2 (tbl_cons cput_k3 (tbl_cons cput_k4 (tbl_cons cput_k5 (tbl_cons out_k ok0))))))
def encL (val : Nl → List SV) (n : Nl) : List SV := [.int .u8 (IntKind.u8.wrap n.kind), .int .u8 (IntKind.u8.wrap ((val n).length : Int))] ++ val n
noncomputable def encT (val : Nl → List SV) (n : Nl) : CTree :=
 bif decide ((40 : Int) = 40 ∧ OkP n) then bif decide ((val n).length = (val n).length ∧ (val n).length ≤ 65536) then
  (bif decide ((val n).length = (val n).length) then
   (bif decide (2 + (val n).length ≤ 9223372036854775807) && decide ((2 + (val n).length) * 1 ≤ 140737488355328) then .ret (.qs 0 1 0 (2 + (val n).length)) [(0, some (.seq 5 (encL val n)))] else .fail)
   else bif decide (0 + (val n).length ≤ (val n).length) then
    (bif decide (2 + (((val n).drop 0).take (val n).length).length ≤ 9223372036854775807) && decide ((2 + (((val n).drop 0).take (val n).length).length) * 1 ≤ 140737488355328) then .ret (.qs 0 1 0 (2 + (((val n).drop 0).take (val n).length).length)) [(0, some (.seq 5 ([.int .u8 (IntKind.u8.wrap n.kind), .int .u8 (IntKind.u8.wrap ((val n).length : Int))] ++ (((val n).drop 0).take (val n).length))))] else .fail) else .fail)
  else .fail else .fail
theorem val_len (n : Nl) : (val1 n).length ≤ 40 ∧ (val2 n).length ≤ 40 ∧ (val3 n).length ≤ 40 ∧ (val4 n).length ≤ 40 ∧ (val5 n).length ≤ 40 := by
 refine ⟨by simp [val1, be_len], ?_, by simp [val3, be_len], by simp [val4, be_len], by simp [val5, be_len]⟩
 cases h : n.hip <;> cases h2 : (n.lab2 != 0) <;> simp [val2, be_len, h, h2]
theorem encT_ok {val : Nl → List SV} {n : Nl} (hl : (val n).length ≤ 40) (hok : OkP n) : crun (encT val n) = some (.qs 0 1 0 (encL val n).length, [(0, some (.seq 5 (encL val n)))]) := by
 unfold encT
 rw [decide_eq_true (show (40 : Int) = 40 ∧ OkP n from ⟨rfl, hok⟩), decide_eq_true (show _ ∧ (val n).length ≤ 65536 from ⟨rfl, by omega⟩), decide_eq_true rfl, decide_eq_true (by omega), decide_eq_true (by omega)]
 simp [crun, encL, Nat.add_comm]; omega
theorem enc_t1 (kind rd e0 e1 e2 e3 e4 e5 e6 e7 e8 e9 tag mac ip : Int) (hip : Bool) (pip plen gw lab lab2 : Int) : opn κc Tryz.f100 [Nl.v ⟨kind, rd, e0, e1, e2, e3, e4, e5, e6, e7, e8, e9, tag, mac, ip, hip, pip, plen, gw, lab, lab2⟩, .iface 171 (.agg [])] [] = encT val1 ⟨kind, rd, e0, e1, e2, e3, e4, e5, e6, e7, e8, e9, tag, mac, ip, hip, pip, plen, gw, lab, lab2⟩ := by kernel_rfl
theorem enc_t2 (kind rd e0 e1 e2 e3 e4 e5 e6 e7 e8 e9 tag mac ip : Int) (hip : Bool) (pip plen gw lab lab2 : Int) : opn κc Tryz.f100 [Nl.v ⟨kind, rd, e0, e1, e2, e3, e4, e5, e6, e7, e8, e9, tag, mac, ip, hip, pip, plen, gw, lab, lab2⟩, .iface 172 (.agg [])] [] = encT val2 ⟨kind, rd, e0, e1, e2, e3, e4, e5, e6, e7, e8, e9, tag, mac, ip, hip, pip, plen, gw, lab, lab2⟩ := by kernel_rfl
theorem enc_t3 (kind rd e0 e1 e2 e3 e4 e5 e6 e7 e8 e9 tag mac ip : Int) (hip : Bool) (pip plen gw lab lab2 : Int) : opn κc Tryz.f100 [Nl.v ⟨kind, rd, e0, e1, e2, e3, e4, e5, e6, e7, e8, e9, tag, mac, ip, hip, pip, plen, gw, lab, lab2⟩, .iface 173 (.agg [])] [] = encT val3 ⟨kind, rd, e0, e1, e2, e3, e4, e5, e6, e7, e8, e9, tag, mac, ip, hip, pip, plen, gw, lab, lab2⟩ := by kernel_rfl
theorem enc_t4 (kind rd e0 e1 e2 e3 e4 e5 e6 e7 e8 e9 tag mac ip : Int) (hip : Bool) (pip plen gw lab lab2 : Int) : opn κc Tryz.f100 [Nl.v ⟨kind, rd, e0, e1, e2, e3, e4, e5, e6, e7, e8, e9, tag, mac, ip, hip, pip, plen, gw, lab, lab2⟩, .iface 174 (.agg [])] [] = encT val4 ⟨kind, rd, e0, e1, e2, e3, e4, e5, e6, e7, e8, e9, tag, mac, ip, hip, pip, plen, gw, lab, lab2⟩ := by kernel_rfl
theorem enc_t5 (kind rd e0 e1 e2 e3 e4 e5 e6 e7 e8 e9 tag mac ip : Int) (hip : Bool) (pip plen gw lab lab2 : Int) : opn κc Tryz.f100 [Nl.v ⟨kind, rd, e0, e1, e2, e3, e4, e5, e6, e7, e8, e9, tag, mac, ip, hip, pip, plen, gw, lab, lab2⟩, .iface 175 (.agg [])] [] = encT val5 ⟨kind, rd, e0, e1, e2, e3, e4, e5, e6, e7, e8, e9, tag, mac, ip, hip, pip, plen, gw, lab, lab2⟩ := by kernel_rfl
def valOf (t : Nat) : Option (Nl → List SV) := bif Nat.beq t 171 then some val1 else bif Nat.beq t 172 then some val2 else bif Nat.beq t 173 then some val3 else bif Nat.beq t 174 then some val4 else bif Nat.beq t 175 then some val5 else none
noncomputable def encode_s : CSumm := fun args H => match args, H with
 | [x, .iface t (.agg [])], [] => match nlOf x, valOf t with
  | some n, some val => .ite (decide (OkP n)) (.ret (.qs 0 1 0 (encL val n).length) [(0, some (.seq 5 (encL val n)))]) .fail
  | _, _ => .fail
 | _, _ => .fail
theorem encode_k : Known Tryz.prog 100 encode_s := (openKnown cOk Tryz.func100 rfl).weak (by
 intro args H v ups h
 unfold encode_s at h
 split at h
 · rename_i x t
   split at h
   · rename_i n val hn hv
     rw [crun_ite, cond_eq_ite] at h
     split at h
     · rename_i hc
       have hok : OkP n := by simpa using hc
       rw [nlOf_v hn]
       obtain ⟨kind, rd, e0, e1, e2, e3, e4, e5, e6, e7, e8, e9, tag, mac, ip, hip, pip, plen, gw, lab, lab2⟩ := n
       obtain ⟨l1, l2, l3, l4, l5⟩ := val_len ⟨kind, rd, e0, e1, e2, e3, e4, e5, e6, e7, e8, e9, tag, mac, ip, hip, pip, plen, gw, lab, lab2⟩
       unfold valOf at hv
       cases h1 : Nat.beq t 171 with
       | true => rw [h1] at hv; cases hv; cases Nat.eq_of_beq_eq_true h1; rw [enc_t1, encT_ok l1 hok]; exact h
       | false =>
       cases h2 : Nat.beq t 172 with
       | true => rw [h1, h2] at hv; cases hv; cases Nat.eq_of_beq_eq_true h2; rw [enc_t2, encT_ok l2 hok]; exact h
       | false =>
       cases h3 : Nat.beq t 173 with
       | true => rw [h1, h2, h3] at hv; cases hv; cases Nat.eq_of_beq_eq_true h3; rw [enc_t3, encT_ok l3 hok]; exact h
       | false =>
       cases h4 : Nat.beq t 174 with
       | true => rw [h1, h2, h3, h4] at hv; cases hv; cases Nat.eq_of_beq_eq_true h4; rw [enc_t4, encT_ok l4 hok]; exact h
       | false =>
       cases h5 : Nat.beq t 175 with
       | true => rw [h1, h2, h3, h4, h5] at hv; cases hv; cases Nat.eq_of_beq_eq_true h5; rw [enc_t5, encT_ok l5 hok]; exact h
       | false => rw [h1, h2, h3, h4, h5] at hv; cases hv
     · cases h
   · cases h
 · cases h)
def nb (n : Nl) : List SV := bif n.kind == 1 then encL val1 n else bif n.kind == 2 then encL val2 n else bif n.kind == 3 then encL val3 n else bif n.kind == 4 then encL val4 n else encL val5 n
noncomputable def nbytes_s : CSumm := fun args H => match args, H with
 | [x], [] => match nlOf x with
  | some n => .ite (decide (chk n = 0 ∧ OkP n)) (.ret (.tup [.qs 0 1 0 (nb n).length, .int .i64 0]) [(0, some (.seq 5 (nb n)))]) .fail
  | none => .fail
 | _, _ => .fail
theorem nbytes_case {args : List SV} {H : HpL} {v : SV} {ups : List (Nat × Option Chunk)} (h : crun (nbytes_s args H) = some (v, ups)) :
  ∃ n : Nl, chk n = 0 ∧ OkP n ∧ args = [n.v] ∧ H = [] ∧ v = .tup [.qs 0 1 0 (nb n).length, .int .i64 0] ∧ ups = [(0, some (.seq 5 (nb n)))] := by
 unfold nbytes_s at h
 split at h
 · rename_i x
   split at h
   · rename_i n hn
     rw [crun_ite, cond_eq_ite] at h
     split at h
     · rename_i hc
       have hc2 : chk n = 0 ∧ OkP n := by simpa using hc
       cases h
       exact ⟨n, hc2.1, hc2.2, by rw [nlOf_v hn], rfl, rfl, rfl⟩
     · cases h
   · cases h
 · cases h
theorem chk_kind {n : Nl} (h : chk n = 0) : n.kind = 1 ∨ n.kind = 2 ∨ n.kind = 3 ∨ n.kind = 4 ∨ n.kind = 5 := by
 by_cases hk : 1 ≤ n.kind ∧ n.kind ≤ 5
 · omega
 · exfalso
   have hc : (decide (n.kind < 1) || decide (n.kind > 5)) = true := by
    simp only [Bool.or_eq_true, decide_eq_true_eq]; omega
   unfold chk at h
   rw [hc] at h
   cases h
noncomputable abbrev κd := tbl [(79, check_s), (100, encode_s)]
theorem dOk : KOk Tryz.prog κd := tbl_cons ncheck_k (tbl_cons encode_k ok0)
theorem nby_t1 (rd e0 e1 e2 e3 e4 e5 e6 e7 e8 e9 tag mac ip : Int) (hip : Bool) (pip plen gw lab lab2 : Int) : opn κd Tryz.f80 [Nl.v ⟨1, rd, e0, e1, e2, e3, e4, e5, e6, e7, e8, e9, tag, mac, ip, hip, pip, plen, gw, lab, lab2⟩] [] = bif chk ⟨1, rd, e0, e1, e2, e3, e4, e5, e6, e7, e8, e9, tag, mac, ip, hip, pip, plen, gw, lab, lab2⟩ != 0 then .ret (.tup [.nils, .int .i64 (chk ⟨1, rd, e0, e1, e2, e3, e4, e5, e6, e7, e8, e9, tag, mac, ip, hip, pip, plen, gw, lab, lab2⟩)]) [] else bif decide (OkP ⟨1, rd, e0, e1, e2, e3, e4, e5, e6, e7, e8, e9, tag, mac, ip, hip, pip, plen, gw, lab, lab2⟩) then .ret (.tup [.qs 0 1 0 (encL val1 ⟨1, rd, e0, e1, e2, e3, e4, e5, e6, e7, e8, e9, tag, mac, ip, hip, pip, plen, gw, lab, lab2⟩).length, .int .i64 0]) [(0, some (.seq 5 (encL val1 ⟨1, rd, e0, e1, e2, e3, e4, e5, e6, e7, e8, e9, tag, mac, ip, hip, pip, plen, gw, lab, lab2⟩)))] else .fail := by kernel_rfl
theorem nby_ok1 (rd e0 e1 e2 e3 e4 e5 e6 e7 e8 e9 tag mac ip : Int) (hip : Bool) (pip plen gw lab lab2 : Int) (hc : chk ⟨1, rd, e0, e1, e2, e3, e4, e5, e6, e7, e8, e9, tag, mac, ip, hip, pip, plen, gw, lab, lab2⟩ = 0) (hok : OkP ⟨1, rd, e0, e1, e2, e3, e4, e5, e6, e7, e8, e9, tag, mac, ip, hip, pip, plen, gw, lab, lab2⟩) : crun (opn κd Tryz.f80 [Nl.v ⟨1, rd, e0, e1, e2, e3, e4, e5, e6, e7, e8, e9, tag, mac, ip, hip, pip, plen, gw, lab, lab2⟩] []) = some (.tup [.qs 0 1 0 (nb ⟨1, rd, e0, e1, e2, e3, e4, e5, e6, e7, e8, e9, tag, mac, ip, hip, pip, plen, gw, lab, lab2⟩).length, .int .i64 0], [(0, some (.seq 5 (nb ⟨1, rd, e0, e1, e2, e3, e4, e5, e6, e7, e8, e9, tag, mac, ip, hip, pip, plen, gw, lab, lab2⟩)))]) := by
 rw [nby_t1, hc, decide_eq_true hok]
 rfl
theorem nby_t2 (rd e0 e1 e2 e3 e4 e5 e6 e7 e8 e9 tag mac ip : Int) (hip : Bool) (pip plen gw lab lab2 : Int) : opn κd Tryz.f80 [Nl.v ⟨2, rd, e0, e1, e2, e3, e4, e5, e6, e7, e8, e9, tag, mac, ip, hip, pip, plen, gw, lab, lab2⟩] [] = bif chk ⟨2, rd, e0, e1, e2, e3, e4, e5, e6, e7, e8, e9, tag, mac, ip, hip, pip, plen, gw, lab, lab2⟩ != 0 then .ret (.tup [.nils, .int .i64 (chk ⟨2, rd, e0, e1, e2, e3, e4, e5, e6, e7, e8, e9, tag, mac, ip, hip, pip, plen, gw, lab, lab2⟩)]) [] else bif decide (OkP ⟨2, rd, e0, e1, e2, e3, e4, e5, e6, e7, e8, e9, tag, mac, ip, hip, pip, plen, gw, lab, lab2⟩) then .ret (.tup [.qs 0 1 0 (encL val2 ⟨2, rd, e0, e1, e2, e3, e4, e5, e6, e7, e8, e9, tag, mac, ip, hip, pip, plen, gw, lab, lab2⟩).length, .int .i64 0]) [(0, some (.seq 5 (encL val2 ⟨2, rd, e0, e1, e2, e3, e4, e5, e6, e7, e8, e9, tag, mac, ip, hip, pip, plen, gw, lab, lab2⟩)))] else .fail := by kernel_rfl
theorem nby_ok2 (rd e0 e1 e2 e3 e4 e5 e6 e7 e8 e9 tag mac ip : Int) (hip : Bool) (pip plen gw lab lab2 : Int) (hc : chk ⟨2, rd, e0, e1, e2, e3, e4, e5, e6, e7, e8, e9, tag, mac, ip, hip, pip, plen, gw, lab, lab2⟩ = 0) (hok : OkP ⟨2, rd, e0, e1, e2, e3, e4, e5, e6, e7, e8, e9, tag, mac, ip, hip, pip, plen, gw, lab, lab2⟩) : crun (opn κd Tryz.f80 [Nl.v ⟨2, rd, e0, e1, e2, e3, e4, e5, e6, e7, e8, e9, tag, mac, ip, hip, pip, plen, gw, lab, lab2⟩] []) = some (.tup [.qs 0 1 0 (nb ⟨2, rd, e0, e1, e2, e3, e4, e5, e6, e7, e8, e9, tag, mac, ip, hip, pip, plen, gw, lab, lab2⟩).length, .int .i64 0], [(0, some (.seq 5 (nb ⟨2, rd, e0, e1, e2, e3, e4, e5, e6, e7, e8, e9, tag, mac, ip, hip, pip, plen, gw, lab, lab2⟩)))]) := by
 rw [nby_t2, hc, decide_eq_true hok]
 rfl
theorem nby_t3 (rd e0 e1 e2 e3 e4 e5 e6 e7 e8 e9 tag mac ip : Int) (hip : Bool) (pip plen gw lab lab2 : Int) : opn κd Tryz.f80 [Nl.v ⟨3, rd, e0, e1, e2, e3, e4, e5, e6, e7, e8, e9, tag, mac, ip, hip, pip, plen, gw, lab, lab2⟩] [] = bif chk ⟨3, rd, e0, e1, e2, e3, e4, e5, e6, e7, e8, e9, tag, mac, ip, hip, pip, plen, gw, lab, lab2⟩ != 0 then .ret (.tup [.nils, .int .i64 (chk ⟨3, rd, e0, e1, e2, e3, e4, e5, e6, e7, e8, e9, tag, mac, ip, hip, pip, plen, gw, lab, lab2⟩)]) [] else bif decide (OkP ⟨3, rd, e0, e1, e2, e3, e4, e5, e6, e7, e8, e9, tag, mac, ip, hip, pip, plen, gw, lab, lab2⟩) then .ret (.tup [.qs 0 1 0 (encL val3 ⟨3, rd, e0, e1, e2, e3, e4, e5, e6, e7, e8, e9, tag, mac, ip, hip, pip, plen, gw, lab, lab2⟩).length, .int .i64 0]) [(0, some (.seq 5 (encL val3 ⟨3, rd, e0, e1, e2, e3, e4, e5, e6, e7, e8, e9, tag, mac, ip, hip, pip, plen, gw, lab, lab2⟩)))] else .fail := by kernel_rfl
theorem nby_ok3 (rd e0 e1 e2 e3 e4 e5 e6 e7 e8 e9 tag mac ip : Int) (hip : Bool) (pip plen gw lab lab2 : Int) (hc : chk ⟨3, rd, e0, e1, e2, e3, e4, e5, e6, e7, e8, e9, tag, mac, ip, hip, pip, plen, gw, lab, lab2⟩ = 0) (hok : OkP ⟨3, rd, e0, e1, e2, e3, e4, e5, e6, e7, e8, e9, tag, mac, ip, hip, pip, plen, gw, lab, lab2⟩) : crun (opn κd Tryz.f80 [Nl.v ⟨3, rd, e0, e1, e2, e3, e4, e5, e6, e7, e8, e9, tag, mac, ip, hip, pip, plen, gw, lab, lab2⟩] []) = some (.tup [.qs 0 1 0 (nb ⟨3, rd, e0, e1, e2, e3, e4, e5, e6, e7, e8, e9, tag, mac, ip, hip, pip, plen, gw, lab, lab2⟩).length, .int .i64 0], [(0, some (.seq 5 (nb ⟨3, rd, e0, e1, e2, e3, e4, e5, e6, e7, e8, e9, tag, mac, ip, hip, pip, plen, gw, lab, lab2⟩)))]) := by
 rw [nby_t3, hc, decide_eq_true hok]
 rfl
theorem nby_t4 (rd e0 e1 e2 e3 e4 e5 e6 e7 e8 e9 tag mac ip : Int) (hip : Bool) (pip plen gw lab lab2 : Int) : opn κd Tryz.f80 [Nl.v ⟨4, rd, e0, e1, e2, e3, e4, e5, e6, e7, e8, e9, tag, mac, ip, hip, pip, plen, gw, lab, lab2⟩] [] = bif chk ⟨4, rd, e0, e1, e2, e3, e4, e5, e6, e7, e8, e9, tag, mac, ip, hip, pip, plen, gw, lab, lab2⟩ != 0 then .ret (.tup [.nils, .int .i64 (chk ⟨4, rd, e0, e1, e2, e3, e4, e5, e6, e7, e8, e9, tag, mac, ip, hip, pip, plen, gw, lab, lab2⟩)]) [] else bif decide (OkP ⟨4, rd, e0, e1, e2, e3, e4, e5, e6, e7, e8, e9, tag, mac, ip, hip, pip, plen, gw, lab, lab2⟩) then .ret (.tup [.qs 0 1 0 (encL val4 ⟨4, rd, e0, e1, e2, e3, e4, e5, e6, e7, e8, e9, tag, mac, ip, hip, pip, plen, gw, lab, lab2⟩).length, .int .i64 0]) [(0, some (.seq 5 (encL val4 ⟨4, rd, e0, e1, e2, e3, e4, e5, e6, e7, e8, e9, tag, mac, ip, hip, pip, plen, gw, lab, lab2⟩)))] else .fail := by kernel_rfl
theorem nby_ok4 (rd e0 e1 e2 e3 e4 e5 e6 e7 e8 e9 tag mac ip : Int) (hip : Bool) (pip plen gw lab lab2 : Int) (hc : chk ⟨4, rd, e0, e1, e2, e3, e4, e5, e6, e7, e8, e9, tag, mac, ip, hip, pip, plen, gw, lab, lab2⟩ = 0) (hok : OkP ⟨4, rd, e0, e1, e2, e3, e4, e5, e6, e7, e8, e9, tag, mac, ip, hip, pip, plen, gw, lab, lab2⟩) : crun (opn κd Tryz.f80 [Nl.v ⟨4, rd, e0, e1, e2, e3, e4, e5, e6, e7, e8, e9, tag, mac, ip, hip, pip, plen, gw, lab, lab2⟩] []) = some (.tup [.qs 0 1 0 (nb ⟨4, rd, e0, e1, e2, e3, e4, e5, e6, e7, e8, e9, tag, mac, ip, hip, pip, plen, gw, lab, lab2⟩).length, .int .i64 0], [(0, some (.seq 5 (nb ⟨4, rd, e0, e1, e2, e3, e4, e5, e6, e7, e8, e9, tag, mac, ip, hip, pip, plen, gw, lab, lab2⟩)))]) := by
 rw [nby_t4, hc, decide_eq_true hok]
 rfl
theorem nby_t5 (rd e0 e1 e2 e3 e4 e5 e6 e7 e8 e9 tag mac ip : Int) (hip : Bool) (pip plen gw lab lab2 : Int) : opn κd Tryz.f80 [Nl.v ⟨5, rd, e0, e1, e2, e3, e4, e5, e6, e7, e8, e9, tag, mac, ip, hip, pip, plen, gw, lab, lab2⟩] [] = bif chk ⟨5, rd, e0, e1, e2, e3, e4, e5, e6, e7, e8, e9, tag, mac, ip, hip, pip, plen, gw, lab, lab2⟩ != 0 then .ret (.tup [.nils, .int .i64 (chk ⟨5, rd, e0, e1, e2, e3, e4, e5, e6, e7, e8, e9, tag, mac, ip, hip, pip, plen, gw, lab, lab2⟩)]) [] else bif decide (OkP ⟨5, rd, e0, e1, e2, e3, e4, e5, e6, e7, e8, e9, tag, mac, ip, hip, pip, plen, gw, lab, lab2⟩) then .ret (.tup [.qs 0 1 0 (encL val5 ⟨5, rd, e0, e1, e2, e3, e4, e5, e6, e7, e8, e9, tag, mac, ip, hip, pip, plen, gw, lab, lab2⟩).length, .int .i64 0]) [(0, some (.seq 5 (encL val5 ⟨5, rd, e0, e1, e2, e3, e4, e5, e6, e7, e8, e9, tag, mac, ip, hip, pip, plen, gw, lab, lab2⟩)))] else .fail := by kernel_rfl
theorem nby_ok5 (rd e0 e1 e2 e3 e4 e5 e6 e7 e8 e9 tag mac ip : Int) (hip : Bool) (pip plen gw lab lab2 : Int) (hc : chk ⟨5, rd, e0, e1, e2, e3, e4, e5, e6, e7, e8, e9, tag, mac, ip, hip, pip, plen, gw, lab, lab2⟩ = 0) (hok : OkP ⟨5, rd, e0, e1, e2, e3, e4, e5, e6, e7, e8, e9, tag, mac, ip, hip, pip, plen, gw, lab, lab2⟩) : crun (opn κd Tryz.f80 [Nl.v ⟨5, rd, e0, e1, e2, e3, e4, e5, e6, e7, e8, e9, tag, mac, ip, hip, pip, plen, gw, lab, lab2⟩] []) = some (.tup [.qs 0 1 0 (nb ⟨5, rd, e0, e1, e2, e3, e4, e5, e6, e7, e8, e9, tag, mac, ip, hip, pip, plen, gw, lab, lab2⟩).length, .int .i64 0], [(0, some (.seq 5 (nb ⟨5, rd, e0, e1, e2, e3, e4, e5, e6, e7, e8, e9, tag, mac, ip, hip, pip, plen, gw, lab, lab2⟩)))]) := by
 rw [nby_t5, hc, decide_eq_true hok]
 rfl
theorem nbytes_k : Known Tryz.prog 80 nbytes_s := (openKnown dOk Tryz.func80 rfl).weak (by
 intro args H v ups h
 obtain ⟨n, hc, hok, rfl, rfl, rfl, rfl⟩ := nbytes_case h
 obtain ⟨kind, rd, e0, e1, e2, e3, e4, e5, e6, e7, e8, e9, tag, mac, ip, hip, pip, plen, gw, lab, lab2⟩ := n
 obtain hk | hk | hk | hk | hk := chk_kind hc <;> cases hk
 · exact nby_ok1 _ _ _ _ _ _ _ _ _ _ _ _ _ _ _ _ _ _ _ _ hc hok
 · exact nby_ok2 _ _ _ _ _ _ _ _ _ _ _ _ _ _ _ _ _ _ _ _ hc hok
 · exact nby_ok3 _ _ _ _ _ _ _ _ _ _ _ _ _ _ _ _ _ _ _ _ hc hok
 · exact nby_ok4 _ _ _ _ _ _ _ _ _ _ _ _ _ _ _ _ _ _ _ _ hc hok
 · exact nby_ok5 _ _ _ _ _ _ _ _ _ _ _ _ _ _ _ _ _ _ _ _ hc hok)
end Go.Proofs.YtdgnhaacdpmclaaGreat
/- The reference's numbers. -/
namespace Go.Proofs.YtdgnhaacdpmclaaGreat
open Go.Am
set_option maxRecDepth 100000
def lenOk (k : Nat) : Bool := decide (k ≤ 9223372036854775807) && decide (k * 1 ≤ 140737488355328)
theorem lenOk_t {k : Nat} (h : k ≤ 1000000) : lenOk k = true := by
 unfold lenOk
 rw [decide_eq_true (by omega), decide_eq_true (by omega)]; rfl
end Go.Proofs.YtdgnhaacdpmclaaGreat
/- Routes: their bytes by the reference. -/
namespace Go.Proofs.YtdgnhaacdpmclaaGreat
open Go.Am
set_option maxRecDepth 100000
end Go.Proofs.YtdgnhaacdpmclaaGreat
/- Readers: numbers. -/
namespace Go.Proofs.YtdgnhaacdpmclaaGreat
open Go.Am
set_option maxRecDepth 100000
noncomputable def dec (p : Prop) : Bool := (Classical.propDecidable p).decide
theorem dec_iff {p : Prop} : dec p = true ↔ p := by unfold dec; exact @decide_eq_true_iff _ (Classical.propDecidable _)
def dg (es : List SV) (i : Nat) : Int := asI (es.getD i .junk)
def tkN (es : List SV) (s : Nat) : Nat → Int
 | 0 => 0
 | k + 1 => tkN es s k * 256 + dg es (s + k)
def okBy (es : List SV) : Prop := ∀ k : Nat, 0 ≤ dg es k ∧ dg es k ≤ 255
theorem tkN_rng {es : List SV} (h : okBy es) (s : Nat) : ∀ k, 0 ≤ tkN es s k ∧ tkN es s k < 256 ^ k
 | 0 => by simp [tkN]
 | k + 1 => by
  obtain ⟨h1, h2⟩ := tkN_rng h s k
  obtain ⟨h3, h4⟩ := h (s + k)
  rw [tkN, Int.pow_succ]
  generalize (256 : Int) ^ k = p at *
  omega
def accS (acc x : Int) : Int := IntKind.u64.wrap ((BitVec.ofInt IntKind.u64.bits (IntKind.u64.wrap (acc * 2 ^ min (8 : Int).toNat IntKind.u64.bits)) ||| BitVec.ofInt IntKind.u64.bits (IntKind.u64.wrap x)).toNat : Int)
noncomputable def body91 : Code := Tryz.f91.body.getD .skip
noncomputable def c91 : Code := (loopAt 4 body91).getD .skip
noncomputable def numLs : CSumm
 | [.nils, .int .i64 n, .int .i64 i, .int .u64 a], [] => .ite (decide (n ≤ i)) (.ret (.tup [.int .i64 2, .int .u64 a]) []) .fail
 | [.qs 0 1 l n, .int .i64 m, .int .i64 i, .int .u64 a], [(0, .seq 5 es)] => .ite (dec (m = n ∧ 0 ≤ i ∧ i ≤ n ∧ n ≤ 8 ∧ l + n ≤ es.length ∧ okBy es ∧ a = tkN es l i.toNat)) (.ret (.tup [.int .i64 2, .int .u64 (tkN es l n)]) []) .fail
 | _, _ => .fail
def numM : List SV → HpL → Nat
 | [_, .int _ n, .int _ i, _], _ => (n - i).toNat
 | _, _ => 0
noncomputable def e91 : LEnt := { ins := [16, 17, 18, 7], outs := [7], keep := [], size := 29, code := c91, s := numLs }
noncomputable abbrev κ0 := openT Tryz.prog (tbl []) 300 5
noncomputable abbrev ι0 : Nat → Bool := fun g => inl (tbl []) g && hasBody Tryz.prog g
noncomputable def nextN (N : Nat) (es : List SV) (l n : Nat) (m i a : Int) : CTree :=
 bif Nat.blt (m - i).toNat N then bif dec (m = n ∧ 0 ≤ i ∧ i ≤ n ∧ n ≤ 8 ∧ l + n ≤ es.length ∧ okBy es ∧ a = tkN es l i.toNat) then .ret (.tup [.int .i64 2, .int .u64 (tkN es l n)]) [] else .fail else .fail
theorem round91 (N : Nat) (es : List SV) (l n : Nat) (m i a : Int) : loopOnce Tryz.prog κ0 ι0 (ltab []) true 300 e91 { e91 with s := boundT numM numLs N } c91 [.qs 0 1 l n, .int .i64 m, .int .i64 i, .int .u64 a] [(0, .seq 5 es)] =
 bif decide (i < m) then bif inB i n then bif decide (l + i.toNat < es.length) then nextN N es l n m (IntKind.i64.wrap (i + 1)) (accS a (dg es (l + i.toNat))) else .fail else .fail else .ret (.tup [.int .i64 2, .int .u64 a]) [] := by kernel_rfl
theorem round91n (N : Nat) (n i a : Int) : loopOnce Tryz.prog κ0 ι0 (ltab []) true 300 e91 { e91 with s := boundT numM numLs N } c91 [.nils, .int .i64 n, .int .i64 i, .int .u64 a] [] = bif decide (i < n) then .fail else .ret (.tup [.int .i64 2, .int .u64 a]) [] := by kernel_rfl
theorem u64_id {n : Int} (h0 : 0 ≤ n) (h1 : n < 18446744073709551616) : IntKind.u64.wrap n = n := by
 simp [IntKind.wrap, IntKind.bits, IntKind.signed]; omega
theorem acc_eq {a x : Int} (h0 : 0 ≤ a) (h1 : a < 72057594037927936) (h2 : 0 ≤ x) (h3 : x ≤ 255) : accS a x = a * 256 + x := by
 obtain ⟨A, rfl⟩ := Int.eq_ofNat_of_zero_le h0
 obtain ⟨X, rfl⟩ := Int.eq_ofNat_of_zero_le h2
 unfold accS
 rw [show (2 : Int) ^ min (8 : Int).toNat IntKind.u64.bits = 256 by decide, u64_id (n := (A : Int) * 256) (by omega) (by omega), u64_id (n := (X : Int)) (by omega) (by omega)]
 have e1 : BitVec.ofInt IntKind.u64.bits ((A : Int) * 256) = BitVec.ofNat 64 (A * 256) := by
  rw [show ((A : Int) * 256) = ((A * 256 : Nat) : Int) by omega]; exact BitVec.ofInt_natCast 64 _
 have e2 : BitVec.ofInt IntKind.u64.bits (X : Int) = BitVec.ofNat 64 X := BitVec.ofInt_natCast 64 _
 rw [e1, e2]
 have e3 : (BitVec.ofNat 64 (A * 256) ||| BitVec.ofNat 64 X).toNat = A * 256 + X := by
  rw [BitVec.toNat_or, BitVec.toNat_ofNat, BitVec.toNat_ofNat, Nat.mod_eq_of_lt (by omega), Nat.mod_eq_of_lt (by omega)]
  have := Nat.shiftLeft_add_eq_or_of_lt (a := A) (b := X) (i := 8) (by omega)
  rw [Nat.shiftLeft_eq] at this
  exact this.symm
 refine (congrArg (fun k : Nat => IntKind.u64.wrap (k : Int)) e3).trans ?_
 rw [u64_id (by omega) (by omega)]
 omega
theorem num_valid : ValidL Tryz.prog e91 := loop_valid (κ := κ0) (ι := ι0) (T := ltab []) (sp := true) (fuel := 300) (c := c91) (μ := numM) (openT_ok noNumTry mixTry ok0 300 5) mixTry ltab_nil (show fillC (ltab []) c91 = c91 by kernel_rfl) (by
 intro N args H r hb hr0
 have hr' : crun (numLs args H) = some r := hr0
 unfold numLs at hr'
 split at hr'
 · rename_i n i a
   rw [crun_ite] at hr'
   cases hc : decide (n ≤ i) with
   | false => rw [hc] at hr'; cases hr'
   | true =>
    rw [hc] at hr'
    rw [← hr']
    have := of_decide_eq_true hc
    refine (congrArg crun (round91n N n i a)).trans ?_
    rw [decide_eq_false (by omega)]; rfl
 · rename_i l n m i a es
   rw [crun_ite] at hr'
   cases hc : dec (m = n ∧ 0 ≤ i ∧ i ≤ n ∧ n ≤ 8 ∧ l + n ≤ es.length ∧ okBy es ∧ a = tkN es l i.toNat) with
   | false => rw [hc] at hr'; cases hr'
   | true =>
    rw [hc] at hr'
    obtain ⟨rfl, h0, h1, h2, h3, h4, rfl⟩ := dec_iff.1 hc
    have hb' : ((n : Int) - i).toNat < N + 1 := by
     have : Nat.blt ((n : Int) - i).toNat (N + 1) = true := hb
     rwa [Nat.blt_eq] at this
    rw [← hr']
    refine (congrArg crun (round91 N es l n n i _)).trans ?_
    by_cases hlt : i < n
    · have hw : IntKind.i64.wrap (i + 1) = i + 1 := w64_id (by omega) (by omega)
      have hin : inB i n = true := by unfold inB; simp; omega
      obtain ⟨t0, t1⟩ := tkN_rng h4 l i.toNat
      obtain ⟨d0, d1⟩ := h4 (l + i.toNat)
      have hp : (256 : Int) ^ i.toNat ≤ 72057594037927936 := by
       have : i.toNat ≤ 7 := by omega
       calc (256 : Int) ^ i.toNat ≤ 256 ^ 7 := by exact_mod_cast Nat.pow_le_pow_right (by decide) this
        _ = 72057594037927936 := by decide
      have hbb : Nat.blt ((n : Int) - (i + 1)).toNat N = true := by rw [Nat.blt_eq]; omega
      rw [decide_eq_true hlt, hin, decide_eq_true (by omega), hw, acc_eq t0 (by omega) d0 d1]
      simp only [cond_true]
      unfold nextN
      rw [hbb, dec_iff.2 ⟨rfl, by omega, by omega, h2, h3, h4, by rw [show (i + 1).toNat = i.toNat + 1 by omega, tkN]⟩]
      rfl
    · have : i.toNat = n := by omega
      rw [decide_eq_false hlt, this]; rfl
 · cases hr')
noncomputable abbrev T91 : LTab := ltab [("n", e91)]
noncomputable def m91 : Code := markC [(4, "n")] body91
theorem fill91 : Tryz.f91.body = some (fillC T91 m91) := by kernel_rfl
noncomputable abbrev num_b : CSumm := bodyCL Tryz.prog κ0 ι0 T91 true 300 Tryz.f91 m91
structure Rd where
 (at_ end_ err fat : Int)
def rH (r : Rd) (n : Nat) (es : List SV) : HpL := [(0, .cells 121 [.int .i64 r.at_, .int .i64 r.end_, .qs 1 1 0 n, .int .i64 r.err, .int .i64 r.fat, .bool true]), (1, .seq 5 es)]
end Go.Proofs.YtdgnhaacdpmclaaGreat
/- Readers: a number by one leaf. -/
namespace Go.Proofs.YtdgnhaacdpmclaaGreat
open Go.Am
set_option maxRecDepth 100000
def rC (r : Rd) (n : Nat) : Chunk := .cells 121 [.int .i64 r.at_, .int .i64 r.end_, .qs 1 1 0 n, .int .i64 r.err, .int .i64 r.fat, .bool true]
def wA (r : Rd) (k : Int) : Int := IntKind.i64.wrap (r.at_ + k)
def wB (r : Rd) (k : Int) : Int := IntKind.i64.wrap (wA r k - k)
def shortB (r : Rd) (k : Int) : Bool := bif decide (k < 0) then true else decide (k > IntKind.i64.wrap (r.end_ - r.at_))
def okSl (r : Rd) (k : Int) (n : Nat) : Bool := decide (0 ≤ wB r k) && decide (wB r k ≤ wA r k) && decide (wA r k ≤ n)
theorem num_t (r : Rd) (n : Nat) (es : List SV) (k : Int) : num_b [.ptr 0 0, .int .i64 k] (rH r n es) =
 bif r.err != 0 then .ret (.int .u64 0) [] else bif shortB r k then (bif r.err == 0 then .ret (.int .u64 0) [(0, some (rC ⟨r.at_, r.end_, 4, r.at_⟩ n))] else .ret (.int .u64 0) []) else
 bif okSl r k n then bif dec (((wA r k).toNat - (wB r k).toNat : Nat) = (((wA r k).toNat - (wB r k).toNat : Nat) : Int) ∧ (0 : Int) ≤ 0 ∧ (0 : Int) ≤ (((wA r k).toNat - (wB r k).toNat : Nat) : Int) ∧ (wA r k).toNat - (wB r k).toNat ≤ 8 ∧ 0 + (wB r k).toNat + ((wA r k).toNat - (wB r k).toNat) ≤ es.length ∧ okBy es ∧ (0 : Int) = tkN es (0 + (wB r k).toNat) (0 : Int).toNat) then
  .ret (.int .u64 (tkN es (0 + (wB r k).toNat) ((wA r k).toNat - (wB r k).toNat))) [(0, some (rC ⟨wA r k, r.end_, r.err, r.fat⟩ n))] else .fail else .fail := by kernel_rfl
def Rd.few (r : Rd) (k : Nat) : Bool := decide ((k : Int) > r.end_ - r.at_)
def Rd.num (r : Rd) (es : List SV) (k : Nat) : Int := bif r.err != 0 then 0 else bif r.few k then 0 else tkN es r.at_.toNat k
def Rd.adv (r : Rd) (k : Nat) : Rd := ⟨bif r.err != 0 then r.at_ else bif r.few k then r.at_ else r.at_ + k, r.end_, bif r.err != 0 then r.err else bif r.few k then 4 else 0, bif r.err != 0 then r.fat else bif r.few k then r.at_ else r.fat⟩
structure OkRd (r : Rd) (es : List SV) : Prop where
 a0 : 0 ≤ r.at_
 a1 : r.at_ ≤ r.end_
 e1 : r.end_ ≤ es.length
 l : es.length ≤ 1000000
 b : okBy es
def rOf : HpL → Option (Rd × Nat × List SV)
 | [(0, .cells 121 [.int .i64 a, .int .i64 e, .qs 1 1 0 n, .int .i64 er, .int .i64 f, .bool true]), (1, .seq 5 es)] => some (⟨a, e, er, f⟩, n, es)
 | _ => none
theorem rOf_h {H : HpL} {r : Rd} {n : Nat} {es : List SV} (h : rOf H = some (r, n, es)) : H = rH r n es := by
 unfold rOf at h
 split at h
 · cases h; rfl
 · cases h
theorem OkRd.adv {r : Rd} {es : List SV} (h : OkRd r es) (k : Nat) : OkRd (r.adv k) es := by
 obtain ⟨h0, h1, h2, h3, h4⟩ := h
 unfold Rd.adv Rd.few
 cases he : r.err != 0 with
 | true => exact ⟨h0, h1, h2, h3, h4⟩
 | false =>
  by_cases hk : (k : Int) > r.end_ - r.at_
  · rw [decide_eq_true hk]; exact ⟨h0, h1, h2, h3, h4⟩
  · rw [decide_eq_false hk]; exact ⟨by simp only [cond_false]; omega, by simp only [cond_false]; omega, h2, h3, h4⟩
theorem rd_facts {r : Rd} {es : List SV} (h : OkRd r es) {k : Nat} (hk : k ≤ 1000000) (hs : r.few k = false) : wA r k = r.at_ + k ∧ wB r k = r.at_ ∧ shortB r k = false ∧ okSl r k es.length = true := by
 obtain ⟨h0, h1, h2, h3, h4⟩ := h
 have hs' : ¬ (k : Int) > r.end_ - r.at_ := of_decide_eq_false hs
 have e1 : wA r k = r.at_ + k := w64_id (by omega) (by omega)
 have e2 : wB r k = r.at_ := by unfold wB; rw [e1]; exact (w64_id (by omega) (by omega)).trans (by omega)
 refine ⟨e1, e2, ?_, ?_⟩
 · unfold shortB; rw [decide_eq_false (by omega), w64_id (by omega) (by omega), decide_eq_false hs']; rfl
 · unfold okSl; rw [e1, e2, decide_eq_true h0, decide_eq_true (by omega), decide_eq_true (by omega)]; rfl
theorem rd_short {r : Rd} {es : List SV} (h : OkRd r es) {k : Nat} (hs : r.few k = true) : shortB r k = true := by
 obtain ⟨h0, h1, h2, h3, h4⟩ := h
 have hs' := of_decide_eq_true hs
 unfold shortB; rw [w64_id (by omega) (by omega), decide_eq_false (by omega), decide_eq_true hs']; rfl
theorem rH_same {r r' : Rd} {n : Nat} {es : List SV} (h : r' = r) : ∀ x, updF [(0, some (rC r' n))] (rH r n es).get x = updF [] (rH r n es).get x := by
 subst h
 intro x
 cases x with
 | zero => rfl
 | succ x => rfl
noncomputable def num_s : CSumm := fun args H => match args with
 | [.ptr 0 0, .int .i64 k] => match rOf H with
  | some (r, n, es) => .ite (dec (OkRd r es ∧ n = es.length ∧ 0 ≤ k ∧ k ≤ 8)) (.ret (.int .u64 (r.num es k.toNat)) [(0, some (rC (r.adv k.toNat) n))]) .fail
  | none => .fail
 | _ => .fail
theorem num_k : Known Tryz.prog 91 num_s := known_ren (show Known Tryz.prog 91 num_b from ⟨⟨Tryz.f91, Tryz.func91, noNum_at noNumTry Tryz.func91, rfl⟩, bodyL_valid (openT_ok noNumTry mixTry ok0 300 5) mixTry (ltab_cons num_valid ltab_nil) Tryz.func91 fill91⟩) (by
 intro args H v ups h
 left
 unfold num_s at h
 split at h
 · rename_i k
   split at h
   · rename_i r n es hr
     rw [crun_ite] at h
     cases hc : dec (OkRd r es ∧ n = es.length ∧ 0 ≤ k ∧ k ≤ 8) with
     | false => rw [hc] at h; cases h
     | true =>
      rw [hc] at h
      obtain ⟨ho, rfl, k0, k8⟩ := dec_iff.1 hc
      obtain ⟨j, rfl⟩ := Int.eq_ofNat_of_zero_le k0
      rw [rOf_h hr]
      have ht := num_t r es.length es j
      cases h
      rw [ht]
      show ∃ ups, _ ∧ ∀ x, updF [(0, some (rC (r.adv j) es.length))] _ x = _
      show ∃ ups, crun _ = some (.int .u64 (r.num es j), ups) ∧ _
      unfold Rd.num Rd.adv
      cases he : r.err != 0 with
      | true => exact ⟨[], rfl, rH_same (by simp)⟩
      | false =>
       have he0 : r.err = 0 := by simpa using he
       cases hs : r.few j with
       | true =>
        rw [rd_short ho hs, he0]
        exact ⟨_, rfl, fun x => rfl⟩
       | false =>
        obtain ⟨e1, e2, e3, e4⟩ := rd_facts ho (show j ≤ 1000000 by omega) hs
        have hs' : ¬ (j : Int) > r.end_ - r.at_ := of_decide_eq_false hs
        have h1 := ho.a0; have h2 := ho.e1
        have hj : (r.at_ + (j : Int)).toNat - r.at_.toNat = j := by omega
        rw [e3, e4, e1, e2, hj, he0, Nat.zero_add, dec_iff.2 ⟨rfl, by omega, by omega, by omega, by omega, ho.b, rfl⟩]
        exact ⟨_, rfl, fun x => rfl⟩
   · cases h
 · cases h)
end Go.Proofs.YtdgnhaacdpmclaaGreat
