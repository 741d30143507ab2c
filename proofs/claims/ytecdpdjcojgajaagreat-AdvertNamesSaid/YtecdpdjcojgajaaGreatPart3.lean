/- Routes that flood: their bytes. -/
import Derived.Test.YtecdpdjcojgajaaGreatPart2
import Derived.Test.YtecdpdjcojgajaaGreatMachine7
import Derived.Test.YtecdpdjcojgajaaGreatPart1
set_option linter.unusedVariables false
set_option linter.unusedSimpArgs false
namespace Go.Proofs.YtecdpdjcojgajaaGreat
open Go.Am
set_option maxRecDepth 100000
structure Nl where
 (kind rd e0 e1 e2 e3 e4 e5 e6 e7 e8 e9 tag mac ip : Int) (hip : Bool) (pip plen gw lab lab2 : Int)
abbrev Nl.v (n : Nl) : SV := .agg [.int .i64 n.kind, .int .u64 n.rd, .int .u8 n.e0, .int .u8 n.e1, .int .u8 n.e2, .int .u8 n.e3, .int .u8 n.e4, .int .u8 n.e5, .int .u8 n.e6, .int .u8 n.e7, .int .u8 n.e8, .int .u8 n.e9, .int .u32 n.tag, .int .u64 n.mac, .int .u32 n.ip, .bool n.hip, .int .u32 n.pip, .int .i64 n.plen, .int .u32 n.gw, .int .u32 n.lab, .int .u32 n.lab2]
def nX (rd ip : Int) : SV := Nl.v ⟨3, rd, 0, 0, 0, 0, 0, 0, 0, 0, 0, 0, 0, 0, ip, true, 0, 0, 0, 0, 0⟩
def nlOf : SV → Option Nl
 | .agg [.int .i64 kind, .int .u64 rd, .int .u8 e0, .int .u8 e1, .int .u8 e2, .int .u8 e3, .int .u8 e4, .int .u8 e5, .int .u8 e6, .int .u8 e7, .int .u8 e8, .int .u8 e9, .int .u32 tag, .int .u64 mac, .int .u32 ip, .bool hip, .int .u32 pip, .int .i64 plen, .int .u32 gw, .int .u32 lab, .int .u32 lab2] => some ⟨kind, rd, e0, e1, e2, e3, e4, e5, e6, e7, e8, e9, tag, mac, ip, hip, pip, plen, gw, lab, lab2⟩
 | _ => none
theorem nlOf_v {x : SV} {n : Nl} (h : nlOf x = some n) : x = n.v := by
 unfold nlOf at h
 split at h
 · cases h; rfl
 · cases h
def rng (rd ip : Int) : Bool := decide (0 ≤ rd ∧ rd < 18446744073709551616 ∧ 0 ≤ ip ∧ ip < 4294967296)
def isF (n : Nl) : Bool := n.kind == 3 && (n.e0 == 0 && (n.e1 == 0 && (n.e2 == 0 && (n.e3 == 0 && (n.e4 == 0 && (n.e5 == 0 && (n.e6 == 0 && (n.e7 == 0 && (n.e8 == 0 && (n.e9 == 0 && (n.tag == 0 && (n.mac == 0 && (n.hip && (n.pip == 0 && (n.plen == 0 && (n.gw == 0 && (n.lab == 0 && (n.lab2 == 0 && rng n.rd n.ip))))))))))))))))))
theorem isF_v {x : SV} {n : Nl} (h : nlOf x = some n) (hf : isF n = true) : x = nX n.rd n.ip ∧ rng n.rd n.ip = true := by
 obtain ⟨kind, rd, e0, e1, e2, e3, e4, e5, e6, e7, e8, e9, tag, mac, ip, hip, pip, plen, gw, lab, lab2⟩ := n
 simp only [isF, Bool.and_eq_true, beq_iff_eq] at hf
 obtain ⟨rfl, rfl, rfl, rfl, rfl, rfl, rfl, rfl, rfl, rfl, rfl, rfl, rfl, rfl, rfl, rfl, rfl, rfl, rfl, hr⟩ := hf
 exact ⟨nlOf_v h, hr⟩
theorem rng_iff {rd ip : Int} (h : rng rd ip = true) : 0 ≤ rd ∧ rd < 18446744073709551616 ∧ 0 ≤ ip ∧ ip < 4294967296 := of_decide_eq_true h
def oneF (s : Int → Int → CTree) : SV → CTree := fun x => match nlOf x with
 | some n => .ite (isF n) (s n.rd n.ip) .fail
 | none => .fail
theorem oneF_case {s : Int → Int → CTree} {x : SV} {r : SV × List (Nat × Option Chunk)} (h : crun (oneF s x) = some r) : ∃ rd ip, x = nX rd ip ∧ rng rd ip = true ∧ crun (s rd ip) = some r := by
 unfold oneF at h
 split at h
 · rename_i n hn
   rw [crun_ite, cond_eq_ite] at h
   split at h
   · rename_i hf
     obtain ⟨h1, h2⟩ := isF_v hn hf
     exact ⟨n.rd, n.ip, h1, h2, h⟩
   · cases h
 · cases h
theorem wu_id {n : Int} (h1 : 0 ≤ n) (h2 : n < 18446744073709551616) : IntKind.u64.wrap n = n := by
 simp [IntKind.wrap, IntKind.bits, IntKind.signed]; omega
abbrev κb := tbl [(56, wr_s 1), (76, wr_s 4), (155, wr_s 8)]
theorem bOk : KOk Tryz.prog κb := tbl_cons u8_k (tbl_cons u32_k (tbl_cons u64_k ok0))
def valX (rd ip : Int) : List SV := be rd 8 ++ be 0 4 ++ be 32 1 ++ be ip 4
theorem pF_t (rd ip : Int) : opn κb Tryz.f161 [.agg [], .ptr 0 0, nX rd ip] [(0, .cells 151 [.nils, .int .i64 40, .mp 1]), (1, .mpc [] [])] =
 bif decide (0 ≤ rd ∧ rd < 256 ^ 8 ∧ ((8 : Nat) : Int) ≤ 40 ∧ (40 : Int) ≤ 65536) then (bif decide (13 = 13 ∧ 0 ≤ (IntKind.u64.wrap ip) ∧ (IntKind.u64.wrap ip) < 256 ^ 4 ∧ ((13 + 4 : Nat) : Int) ≤ 40 ∧ (40 : Int) ≤ 65536) then (.ret (.tup []) [(0, some (.cells 151 [.qs 2 1 0 17, .int .i64 40, .mp 1])), (2, some (.seq 5 (be rd 8 ++ be 0 4 ++ be 32 1 ++ be (IntKind.u64.wrap ip) 4)))]) else .fail) else .fail := by kernel_rfl
def pF_s : CSumm := fun args H => match args, H with
 | [.agg [], .ptr 0 0, x], [(0, .cells 151 [.nils, .int .i64 lim, .mp 1]), (1, .mpc [] [])] => .ite (decide (lim = 40)) (oneF (fun rd ip => .ret (.tup []) [(0, some (.cells 151 [.qs 2 1 0 17, .int .i64 40, .mp 1])), (2, some (.seq 5 (valX rd ip)))]) x) .fail
 | _, _ => .fail
theorem pF_k : Known Tryz.prog 161 pF_s := (openKnown bOk Tryz.func161 rfl).weak (by
 intro args H v ups h
 unfold pF_s at h
 split at h
 · rename_i x lim
   rw [crun_ite, cond_eq_ite] at h
   split at h
   · rename_i hc
     obtain rfl := of_decide_eq_true hc
     obtain ⟨rd, ip, rfl, hr, h⟩ := oneF_case h
     obtain ⟨r0, r1, i0, i1⟩ := rng_iff hr
     have w2 := wu_id i0 (by omega)
     rw [pF_t, w2, decide_eq_true (by omega), decide_eq_true (by omega)]
     exact h
   · cases h
 · cases h)
noncomputable abbrev κc := tbl [(161, pF_s), (57, out_s)]
theorem cOk : KOk Tryz.prog κc := tbl_cons pF_k (tbl_cons out_k ok0)
def nbL (rd ip : Int) : List SV := [.int .u8 3, .int .u8 17] ++ valX rd ip
theorem enc_t (rd ip : Int) : opn κc Tryz.f59 [nX rd ip, .iface 163 (.agg [])] [] = bif rng rd ip then .ret (.qs 0 1 0 19) [(0, some (.seq 5 (nbL rd ip)))] else .fail := by kernel_rfl
def enc_s : CSumm := fun args H => match args, H with
 | [x, .iface t (.agg [])], [] => .ite (Nat.beq t 163) (oneF (fun rd ip => .ret (.qs 0 1 0 19) [(0, some (.seq 5 (nbL rd ip)))]) x) .fail
 | _, _ => .fail
theorem enc_k : Known Tryz.prog 59 enc_s := (openKnown cOk Tryz.func59 rfl).weak (by
 intro args H v ups h
 unfold enc_s at h
 split at h
 · rename_i x t
   rw [crun_ite, cond_eq_ite] at h
   split at h
   · rename_i hc
     obtain rfl := Nat.eq_of_beq_eq_true hc
     obtain ⟨rd, ip, rfl, hr, h⟩ := oneF_case h
     rw [enc_t, hr]
     exact h
   · cases h
 · cases h)
noncomputable abbrev κn := tbl [(59, enc_s)]
theorem nOk : KOk Tryz.prog κn := tbl_cons enc_k ok0
theorem nb_t (rd ip : Int) : opn κn Tryz.f37 [nX rd ip] [] = bif rng rd ip then .ret (.tup [.qs 0 1 0 19, .int .i64 0]) [(0, some (.seq 5 (nbL rd ip)))] else .fail := by kernel_rfl
def nb_s : CSumm := fun args H => match args, H with
 | [x], [] => oneF (fun rd ip => .ret (.tup [.qs 0 1 0 19, .int .i64 0]) [(0, some (.seq 5 (nbL rd ip)))]) x
 | _, _ => .fail
theorem nb_k : Known Tryz.prog 37 nb_s := (openKnown nOk Tryz.func37 rfl).weak (by
 intro args H v ups h
 unfold nb_s at h
 split at h
 · obtain ⟨rd, ip, rfl, hr, h⟩ := oneF_case h
   rw [nb_t, hr]
   exact h
 · cases h)
theorem nc_t (rd ip : Int) : opn (tbl []) Tryz.f58 [nX rd ip] [] = .ret (.int .i64 0) [] := by kernel_rfl
def nc_s : CSumm := fun args H => match args, H with
 | [x], [] => oneF (fun _ _ => .ret (.int .i64 0) []) x
 | _, _ => .fail
theorem nc_k : Known Tryz.prog 58 nc_s := (openKnown ok0 Tryz.func58 rfl).weak (by
 intro args H v ups h
 unfold nc_s at h
 split at h
 · obtain ⟨rd, ip, rfl, hr, h⟩ := oneF_case h
   rw [nc_t]
   exact h
 · cases h)
end Go.Proofs.YtecdpdjcojgajaaGreat
/- Messages that announce one route. -/
namespace Go.Proofs.YtecdpdjcojgajaaGreat
open Go.Am
set_option maxRecDepth 100000
noncomputable abbrev κe := tbl [(58, nc_s), (37, nb_s), (56, wr_s 1), (55, wr_s 2), (134, wr_s 3), (76, wr_s 4), (53, bytes_s), (57, out_s)]
theorem eOk : KOk Tryz.prog κe := tbl_cons nc_k (tbl_cons nb_k (tbl_cons u8_k (tbl_cons u16_k (tbl_cons u24_k (tbl_cons u32_k (tbl_cons bytes_k (tbl_cons out_k ok0)))))))
noncomputable abbrev opn8 (T : Nat → Option CSumm) (fn : Func) : CSumm := bodyC Tryz.prog (openT Tryz.prog T 300 8) (fun g => inl T g && hasBody Tryz.prog g) true 300 fn
theorem openKnown8 {T : Nat → Option CSumm} (hT : KOk Tryz.prog T) {f : Nat} {fn : Func} (hf : Tryz.prog.funcs[f]? = some fn) (hb : fn.body.isNone = false) : Known Tryz.prog f (opn8 T fn) :=
 known_of_bodyC noNumTry mixTry (openT_ok noNumTry mixTry hT 300 8) hf hb (fun _ _ _ _ h => h)
def aX : List SV := [.int .i64 0, .psl 26 [], .int .u32 1, .bool false, .int .u32 0, .bool true, .int .u32 100, .bool false, .int .u32 0, .psl 28 [], .psl 80 [], .int .i64 0, .int .u32 0, .int .u32 0, .int .u32 0]
def mX (k : Nat) : List SV := [.int .i64 2, .int .u32 0, .int .i64 0, .int .u32 0, .int .i64 0, .bool false, .int .i64 0, .int .i64 0] ++ aX ++ [.qs 0 21 0 k, .nils]
def bl (l : List Int) : List SV := l.map (.int .u8)
def hdX : List SV := [.int .u8 255, .int .u8 255, .int .u8 255, .int .u8 255, .int .u8 255, .int .u8 255, .int .u8 255, .int .u8 255, .int .u8 255, .int .u8 255, .int .u8 255, .int .u8 255, .int .u8 255, .int .u8 255, .int .u8 255, .int .u8 255, .int .u8 0, .int .u8 68, .int .u8 2, .int .u8 0, .int .u8 0, .int .u8 0, .int .u8 45, .int .u8 64, .int .u8 1, .int .u8 1, .int .u8 0, .int .u8 64, .int .u8 2, .int .u8 0, .int .u8 64, .int .u8 5, .int .u8 4, .int .u8 0, .int .u8 0, .int .u8 0, .int .u8 100, .int .u8 128, .int .u8 14, .int .u8 28, .int .u8 0, .int .u8 25, .int .u8 70, .int .u8 4, .int .u8 0, .int .u8 0, .int .u8 0, .int .u8 1, .int .u8 0]
theorem by_t (rd ip : Int) : opn8 κe Tryz.f35 [.agg (mX 1)] [(0, .seq 32 [nX rd ip])] = bif rng rd ip then bif rng rd ip then .ret (.tup [.qs 1 1 0 68, .int .i64 0]) [(1, some (.seq 5 (hdX ++ nbL rd ip)))] else .fail else .fail := by kernel_rfl
def oneM (s : Int → Int → CTree) : CSumm := fun args H => match args, H with
 | [.agg m], [(0, .seq 32 [x])] => .ite (eqLS m (mX 1)) (oneF s x) .fail
 | _, _ => .fail
theorem oneM_case {s : Int → Int → CTree} {args : List SV} {H : HpL} {r : SV × List (Nat × Option Chunk)} (h : crun (oneM s args H) = some r) : ∃ rd ip, args = [.agg (mX 1)] ∧ H = [(0, .seq 32 [nX rd ip])] ∧ rng rd ip = true ∧ crun (s rd ip) = some r := by
 unfold oneM at h
 split at h
 · rename_i m x
   rw [crun_ite, cond_eq_ite] at h
   split at h
   · rename_i hm
     obtain ⟨rd, ip, rfl, hr, h⟩ := oneF_case h
     exact ⟨rd, ip, by rw [eqLS_eq hm], rfl, hr, h⟩
   · cases h
 · cases h
def by_s : CSumm := oneM (fun rd ip => .ret (.tup [.qs 1 1 0 68, .int .i64 0]) [(1, some (.seq 5 (hdX ++ nbL rd ip)))])
theorem by_k : Known Tryz.prog 35 by_s := (openKnown8 eOk Tryz.func35 rfl).weak (by
 intro args H v ups h
 obtain ⟨rd, ip, rfl, rfl, hr, h⟩ := oneM_case h
 rw [by_t, hr]
 exact h)
noncomputable abbrev κg := tbl [(35, by_s)]
theorem gOk : KOk Tryz.prog κg := tbl_cons by_k ok0
theorem ck_t (rd ip : Int) : opn κg Tryz.f34 [.agg (mX 1)] [(0, .seq 32 [nX rd ip])] = bif rng rd ip then .ret (.int .i64 0) [] else .fail := by kernel_rfl
def ck_s : CSumm := oneM (fun _ _ => .ret (.int .i64 0) [])
theorem ck_k : Known Tryz.prog 34 ck_s := (openKnown gOk Tryz.func34 rfl).weak (by
 intro args H v ups h
 obtain ⟨rd, ip, rfl, rfl, hr, h⟩ := oneM_case h
 rw [ck_t, hr]
 exact h)
end Go.Proofs.YtecdpdjcojgajaaGreat
/- A message that announces: how it is made. -/
namespace Go.Proofs.YtecdpdjcojgajaaGreat
open Go.Am
set_option maxRecDepth 100000
noncomputable abbrev κw := tbl [(31, c31), (32, c32), (33, c33)]
theorem wOk : KOk Tryz.prog κw := tbl_cons c31_k (tbl_cons c32_k (tbl_cons c33_k ok0))
def mXb (b k : Nat) : List SV := [.int .i64 2, .int .u32 0, .int .i64 0, .int .u32 0, .int .i64 0, .bool false, .int .i64 0, .int .i64 0] ++ aX ++ [.qs b 21 0 k, .nils]
def cellsN (n : Nl) : List SV := match n.v with | .agg l => l | _ => []
theorem w40_t (n : Nl) : opn8 κw Tryz.f40 [.sl 0 21 0 1, .ptr 1 0] [(0, .cells 32 (cellsN n)), (1, .cells 39 aX)] = .ret (.agg (mXb 2 1)) [(2, some (.seq 32 [n.v]))] := by kernel_rfl
theorem w40_q (o k : Nat) (es : List SV) : opn8 κw Tryz.f40 [.qs 0 21 o k, .ptr 1 0] [(0, .seq 32 es), (1, .cells 39 aX)] =
 bif decide (0 < k) then bif decide (o = 0) && decide (k = es.length) then bif decide (([] : List SV).length + es.length ≤ 9223372036854775807) && decide ((([] : List SV).length + es.length) * Tryz.prog.types[32].bytes ≤ 140737488355328) then .ret (.agg (mXb 2 (([] : List SV).length + es.length))) [(2, some (.seq 32 ([] ++ es)))] else .fail else
  bif decide (o + k ≤ es.length) then bif decide (([] : List SV).length + (List.take k (List.drop o es)).length ≤ 9223372036854775807) && decide ((([] : List SV).length + (List.take k (List.drop o es)).length) * Tryz.prog.types[32].bytes ≤ 140737488355328) then .ret (.agg (mXb 2 (([] : List SV).length + (List.take k (List.drop o es)).length))) [(2, some (.seq 32 ([] ++ List.take k (List.drop o es))))] else .fail else .fail
 else .fail := by kernel_rfl
theorem bytes32 : Nat.ble Tryz.prog.types[32].bytes 1000 = true := by kernel_rfl
theorem fits32 {k : Nat} (h : k ≤ 1000) : (decide (k ≤ 9223372036854775807) && decide (k * Tryz.prog.types[32].bytes ≤ 140737488355328)) = true := by
 have hb := Nat.le_of_ble_eq_true bytes32
 have := Nat.mul_le_mul h hb
 rw [decide_eq_true (by omega), decide_eq_true (by omega)]; rfl
def w40_s : CSumm := fun args H => match args, H with
 | [.sl 0 21 0 1, .ptr 1 0], [(0, .cells 32 nl), (1, .cells 39 at_)] => .ite (eqLS at_ aX) (match nlOf (.agg nl) with
  | some n => .ret (.agg (mXb 2 1)) [(2, some (.seq 32 [n.v]))]
  | none => .fail) .fail
 | [.qs 0 21 o k, .ptr 1 0], [(0, .seq 32 es), (1, .cells 39 at_)] => .ite (eqLS at_ aX) (.ite (Nat.blt 0 k && Nat.ble (o + k) es.length && Nat.ble es.length 1000) (.ret (.agg (mXb 2 k)) [(2, some (.seq 32 ((es.drop o).take k)))]) .fail) .fail
 | _, _ => .fail
theorem w40_k : Known Tryz.prog 40 w40_s := (openKnown8 wOk Tryz.func40 rfl).weak (by
 intro args H v ups h
 unfold w40_s at h
 split at h
 · rename_i nl at_
   rw [crun_ite, cond_eq_ite] at h
   split at h
   · rename_i hc
     rw [eqLS_eq hc]
     split at h
     · rename_i n hn
       have := nlOf_v hn
       cases this
       refine (congrArg crun (w40_t n)).trans h
     · cases h
   · cases h
 · rename_i o k es at_
   rw [crun_ite, cond_eq_ite] at h
   split at h
   · rename_i hc
     rw [eqLS_eq hc]
     rw [crun_ite, cond_eq_ite] at h
     split at h
     · rename_i hd
       simp only [Bool.and_eq_true, Nat.blt_eq, Nat.ble_eq] at hd
       obtain ⟨⟨h1, h2⟩, h3⟩ := hd
       have hl : (List.take k (List.drop o es)).length = k := by rw [List.length_take, List.length_drop]; omega
       refine (congrArg crun (w40_q o k es)).trans ?_
       rw [decide_eq_true h1]
       cases hq : decide (o = 0) && decide (k = es.length) with
       | true =>
        simp only [Bool.and_eq_true, decide_eq_true_eq] at hq
        obtain ⟨rfl, rfl⟩ := hq
        simp only [List.length_nil, Nat.zero_add, List.nil_append, fits32 h3, cond_true]
        rw [List.drop_zero, List.take_length] at h
        exact h
       | false =>
        rw [decide_eq_true h2]
        simp only [List.length_nil, Nat.zero_add, List.nil_append, cond_true, cond_false, hl, fits32 (show k ≤ 1000 by omega)]
        exact h
     · cases h
   · cases h
 · cases h)
end Go.Proofs.YtecdpdjcojgajaaGreat
/- What is advertised: the chapter's example: the loops over maps. -/
namespace Go.Proofs.YtecdpdjcojgajaaGreat
open Go.Am
set_option maxRecDepth 100000
def nF (n : Int) : List SV := [.int .i64 3, .int .u64 (281474976710656 + n), .int .u8 0, .int .u8 0, .int .u8 0, .int .u8 0, .int .u8 0, .int .u8 0, .int .u8 0, .int .u8 0, .int .u8 0, .int .u8 0, .int .u32 0, .int .u64 0, .int .u32 (10 + n), .bool true, .int .u32 0, .int .i64 0, .int .u32 0, .int .u32 0, .int .u32 0]
def aF : List SV := [.int .i64 0, .nils, .int .u32 1, .bool false, .int .u32 0, .bool true, .int .u32 100, .bool false, .int .u32 0, .nils, .nils, .int .i64 0, .int .u32 0, .int .u32 0, .int .u32 0]
def rF (n : Int) : List SV := nF n ++ aF ++ [.int .u32 0, .bool false]
def mF (a b : Int) : Chunk := .mpn [0, 1] 2 [.agg (nF a), .agg (nF b)] [.agg (rF a), .agg (rF b)]
noncomputable abbrev κ0 : Nat → Option CSumm := openT Tryz.prog (tbl []) 300 5
noncomputable abbrev ι0 : Nat → Bool := fun g => hasBody Tryz.prog g
theorem k0Ok : KOk Tryz.prog κ0 := openT_ok noNumTry mixTry ok0 300 5
noncomputable def body7 : Code := Tryz.f13.body.getD .skip
noncomputable def c7a : Code := (loopAt 4 body7).getD .skip
noncomputable def c7b : Code := (loopAt 10 body7).getD .skip
def A7a : List SV := [.ptr 0 0, .mp 2, .mp 3]
def H7a : HpL := [(0, .mit 1 2 [] 2), (1, mF 1 2), (2, mF 2 3), (3, .mpn [] 0 [] [])]
def A7b : List SV := [.ptr 0 0, .mp 2]
def H7b : HpL := [(0, .mit 1 2 [] 2), (1, mF 1 2), (2, mF 2 3)]
def u7a : List (Nat × Option Chunk) := [(3, some (.mpn [0] 1 [.agg (nF 1)] [.agg []])), (0, none)]
def u7b : List (Nat × Option Chunk) := [(2, some (.mpn [1] 2 [.agg (nF 3)] [.agg (rF 3)])), (0, none)]
noncomputable def s7a : CSumm := fun args H => .ite (dec (args = A7a ∧ H = H7a)) (.ret (.tup [.int .i64 2, .mp 2, .mp 3]) u7a) .fail
noncomputable def s7b : CSumm := fun args H => .ite (dec (args = A7b ∧ H = H7b)) (.ret (.tup [.int .i64 4, .mp 2]) u7b) .fail
noncomputable def e7a : LEnt := { ins := [25, 7, 8], outs := [7, 8], keep := [4, 5, 6], size := 91, code := c7a, s := s7a }
noncomputable def e7b : LEnt := { ins := [42, 7], outs := [7], keep := [4, 5, 8], size := 91, code := c7b, s := s7b }
theorem n7a_t : loopNOnce Tryz.prog κ0 ι0 300 4 true e7a A7a H7a = .any (.ret (.tup [.int .i64 2, .mp 2, .mp 3]) u7a) (.ret (.tup [.int .i64 2, .mp 2, .mp 3]) u7a) := by kernel_rfl
theorem n7b_t : loopNOnce Tryz.prog κ0 ι0 300 4 true e7b A7b H7b = .any (.ret (.tup [.int .i64 4, .mp 2]) u7b) (.ret (.tup [.int .i64 4, .mp 2]) u7b) := by kernel_rfl
theorem v7a : ValidL Tryz.prog e7a := mapLoop_valid k0Ok mixTry (fun args H r h => by
 have h' : crun (s7a args H) = some r := h
 unfold s7a at h'
 rw [crun_ite] at h'
 cases hc : dec (args = A7a ∧ H = H7a) with
 | false => rw [hc] at h'; cases h'
 | true =>
  rw [hc, cond_true] at h'
  obtain ⟨rfl, rfl⟩ := dec_iff.1 hc
  rw [n7a_t]
  exact denN_same h' h')
theorem v7b : ValidL Tryz.prog e7b := mapLoop_valid k0Ok mixTry (fun args H r h => by
 have h' : crun (s7b args H) = some r := h
 unfold s7b at h'
 rw [crun_ite] at h'
 cases hc : dec (args = A7b ∧ H = H7b) with
 | false => rw [hc] at h'; cases h'
 | true =>
  rw [hc, cond_true] at h'
  obtain ⟨rfl, rfl⟩ := dec_iff.1 hc
  rw [n7b_t]
  exact denN_same h' h')
noncomputable abbrev T7 : LTab := ltab [("a", e7a), ("b", e7b)]
noncomputable abbrev m7 : Code := markC [(4, "a"), (10, "b")] body7
noncomputable def diff_b : CSumm := bodyCL Tryz.prog κ0 ι0 T7 true 300 Tryz.f13 m7
theorem diff_k0 : Known Tryz.prog 13 diff_b := ⟨⟨Tryz.f13, Tryz.func13, noNum_at noNumTry Tryz.func13, rfl⟩, bodyL_valid k0Ok mixTry (ltab_cons v7a (ltab_cons v7b ltab_nil)) Tryz.func13 (show Tryz.f13.body = some (fillC T7 m7) by kernel_rfl)⟩
end Go.Proofs.YtecdpdjcojgajaaGreat
/- What is advertised: the chapter's example: it holds. -/
namespace Go.Proofs.YtecdpdjcojgajaaGreat
open Go.Am
set_option maxRecDepth 100000
def D7 : List SV := [.sl 0 38 0 2, .sl 1 38 0 2]
def DH7 : HpL := [(0, .cells 41 (rF 1 ++ rF 2)), (1, .cells 41 (rF 2 ++ rF 3))]
def aP : List SV := [.int .i64 0, .psl 26 [], .int .u32 1, .bool false, .int .u32 0, .bool true, .int .u32 100, .bool false, .int .u32 0, .psl 28 [], .psl 80 [], .int .i64 0, .int .u32 0, .int .u32 0, .int .u32 0]
def rP (n : Int) : List SV := nF n ++ aP ++ [.int .u32 0, .bool false]
def v7 : SV := .tup [.qs 2 21 0 1, .qs 3 38 0 1]
def u7 : List (Nat × Option Chunk) := [(2, some (.seq 32 [.agg (nF 1)])), (3, some (.seq 41 [.agg (rP 3)]))]
theorem diff_t : diff_b D7 DH7 = bif dec (A7a = A7a ∧ H7a = H7a) then bif dec (A7b = A7b ∧ H7b = H7b) then .ret v7 u7 else .fail else .fail := by kernel_rfl
noncomputable def diff_s : CSumm := fun args H => .ite (dec (args = D7 ∧ H = DH7)) (.ret v7 u7) .fail
theorem diff_k : Known Tryz.prog 13 diff_s := diff_k0.weak (by
 intro args H v ups h
 unfold diff_s at h
 rw [crun_ite] at h
 cases hc : dec (args = D7 ∧ H = DH7) with
 | false => rw [hc] at h; cases h
 | true =>
  rw [hc, cond_true] at h
  obtain ⟨rfl, rfl⟩ := dec_iff.1 hc
  refine (congrArg crun diff_t).trans ?_
  rw [dec_iff.2 ⟨rfl, rfl⟩, dec_iff.2 ⟨rfl, rfl⟩, cond_true, cond_true]
  exact h)
noncomputable abbrev κd := tbl [(13, diff_s)]
theorem dOk : KOk Tryz.prog κd := tbl_cons diff_k ok0
theorem lives_t : opn κd Tryz.f4 [] [] = bif dec (D7 = D7 ∧ DH7 = DH7) then .ret (.bool true) [] else .fail := by kernel_rfl
def lives_s : CSumm := fun args H => match args, H with
 | [], [] => .ret (.bool true) []
 | _, _ => .fail
theorem lives_k : Known Tryz.prog 4 lives_s := (openKnown dOk Tryz.func4 rfl).weak (by
 intro args H v ups h
 unfold lives_s at h
 split at h
 · refine (congrArg crun lives_t).trans ?_
   rw [dec_iff.2 ⟨rfl, rfl⟩]
   exact h
 · cases h)
end Go.Proofs.YtecdpdjcojgajaaGreat
/- Many routes are checked: the loop. -/
namespace Go.Proofs.YtecdpdjcojgajaaGreat
open Go.Am
set_option maxRecDepth 100000
noncomputable abbrev κh := tbl [(40, w40_s), (34, ck_s)]
theorem hOk : KOk Tryz.prog κh := tbl_cons w40_k (tbl_cons ck_k ok0)
noncomputable abbrev κho := openT Tryz.prog κh 300 8
theorem hoOk : KOk Tryz.prog κho := openT_ok noNumTry mixTry hOk 300 8
noncomputable abbrev ιh : Nat → Bool := fun g => inl κh g && hasBody Tryz.prog g
def manyR (k : Nat) : List SV := (List.range k).map (fun (i : Nat) => SV.agg (rP (i : Int)))
def lft (n i : Int) : Nat := (n - i).toNat
def nlAt (x : SV) : Nl := ⟨asI (cellAt x 0), asI (cellAt x 1), asI (cellAt x 2), asI (cellAt x 3), asI (cellAt x 4), asI (cellAt x 5), asI (cellAt x 6), asI (cellAt x 7), asI (cellAt x 8), asI (cellAt x 9), asI (cellAt x 10), asI (cellAt x 11), asI (cellAt x 12), asI (cellAt x 13), asI (cellAt x 14), asB (cellAt x 15), asI (cellAt x 16), asI (cellAt x 17), asI (cellAt x 18), asI (cellAt x 19), asI (cellAt x 20)⟩
def atAt (x : SV) : List SV := [.int .i64 (asI (cellAt x 21)), .psl 26 (asL (cellAt x 22)), .int .u32 (asI (cellAt x 23)), .bool (asB (cellAt x 24)), .int .u32 (asI (cellAt x 25)), .bool (asB (cellAt x 26)), .int .u32 (asI (cellAt x 27)), .bool (asB (cellAt x 28)), .int .u32 (asI (cellAt x 29)), .psl 28 (asL (cellAt x 30)), .psl 80 (asL (cellAt x 31)), .int .i64 (asI (cellAt x 32)), .int .u32 (asI (cellAt x 33)), .int .u32 (asI (cellAt x 34)), .int .u32 (asI (cellAt x 35))]
def okR (x : SV) : Bool := eqLS (atAt x) aX && isF (nlAt x)
def allR : List SV → Bool
 | [] => true
 | x :: l => okR x && allR l
def inv (m : Nat) (n i : Int) (es : List SV) : Bool := Nat.beq m es.length && decide (n = es.length ∧ 0 ≤ i ∧ i ≤ n ∧ n ≤ 1000)
def s17 : CSumm := fun args H => match args, H with
 | [.qs 0 38 0 m, .int .i64 n, .int .i64 i], [(0, .seq 41 es)] => .ite (inv m n i es && allR es) (.ret (.tup [.int .i64 4]) []) .fail
 | _, _ => .fail
def mu17 : List SV → HpL → Nat
 | [_, .int _ n, .int _ i], _ => lft n i
 | _, _ => 0
noncomputable def body17 : Code := Tryz.f17.body.getD .skip
noncomputable def c17 : Code := (loopAt 9 body17).getD .skip
noncomputable def e17 : LEnt := { ins := [25, 26, 27], outs := [], keep := [], size := 43, code := c17, s := s17 }
abbrev el (es : List SV) (i : Int) : SV := es.getD (0 + i.toNat) .junk
theorem r17_t (N m : Nat) (n i : Int) (es : List SV) : loopOnce Tryz.prog κho ιh (ltab []) true 300 e17 { e17 with s := boundT mu17 s17 N } c17 [.qs 0 38 0 m, .int .i64 n, .int .i64 i] [(0, .seq 41 es)] =
 bif decide (i < n) then bif inB i m then bif decide (0 + i.toNat < es.length) then bif eqLS (atAt (el es i)) aX then bif isF (nlAt (el es i)) then
  bif Nat.blt (lft n (IntKind.i64.wrap (i + 1))) N then bif inv m n (IntKind.i64.wrap (i + 1)) es && allR es then .ret (.tup [.int .i64 4]) [] else .fail else .fail
 else .fail else .fail else .fail else .fail else .ret (.tup [.int .i64 4]) [] := by kernel_rfl
theorem allR_at : ∀ {es : List SV} {k : Nat}, allR es = true → k < es.length → okR (es.getD k .junk) = true
 | [], _, _, h => by simp at h
 | x :: l, 0, h, _ => by
  simp only [allR, Bool.and_eq_true] at h
  exact h.1
 | x :: l, k + 1, h, hk => by
  simp only [allR, Bool.and_eq_true] at h
  exact allR_at (es := l) h.2 (by simpa using hk)
theorem inv_iff {m : Nat} {n i : Int} {es : List SV} : inv m n i es = true ↔ m = es.length ∧ n = es.length ∧ 0 ≤ i ∧ i ≤ n ∧ n ≤ 1000 := by
 unfold inv
 rw [Bool.and_eq_true, decide_eq_true_eq, Nat.beq_eq]
theorem lft_lt {n i : Int} {N : Nat} (h : lft n i < N + 1) (hlt : i < n) : Nat.blt (lft n (i + 1)) N = true := by
 rw [Nat.blt_eq]; unfold lft at *; omega
theorem v17 : ValidL Tryz.prog e17 := loop_valid (κ := κho) (ι := ιh) (T := ltab []) (sp := true) (fuel := 300) (c := c17) (μ := mu17) hoOk mixTry ltab_nil (show fillC (ltab []) c17 = c17 by kernel_rfl) (by
 intro N args H r hb hr
 have hr' : crun (s17 args H) = some r := hr
 unfold s17 at hr'
 split at hr'
 · rename_i m n i es
   rw [crun_ite] at hr'
   cases hc : (inv m n i es && allR es) with
   | false => rw [hc] at hr'; cases hr'
   | true =>
    rw [hc, cond_true] at hr'
    simp only [Bool.and_eq_true] at hc
    obtain ⟨hi, ha⟩ := hc
    obtain ⟨h1, h2, h3, h4, h5⟩ := inv_iff.1 hi
    have hb' : lft n i < N + 1 := by
     have : Nat.blt (lft n i) (N + 1) = true := hb
     rwa [Nat.blt_eq] at this
    rw [← hr']
    refine (congrArg crun (r17_t N m n i es)).trans ?_
    by_cases hlt : i < n
    · have hw : IntKind.i64.wrap (i + 1) = i + 1 := w64_id (by omega) (by omega)
      have hin : inB i m = true := by unfold inB; simp; omega
      have hk : 0 + i.toNat < es.length := by omega
      have hok := allR_at ha hk
      unfold okR at hok
      rw [Bool.and_eq_true] at hok
      have hv : inv m n (i + 1) es = true := inv_iff.2 ⟨h1, h2, by omega, by omega, h5⟩
      rw [decide_eq_true hlt, hin, decide_eq_true hk, hok.1, hok.2, hw, lft_lt hb' hlt, hv, ha]
      rfl
    · rw [decide_eq_false hlt]; rfl
 · cases hr')
noncomputable abbrev T17 : LTab := ltab [("s", e17)]
noncomputable def m17 : Code := markC [(9, "s")] body17
theorem fill17 : Tryz.f17.body = some (fillC T17 m17) := by kernel_rfl
noncomputable abbrev check_b : CSumm := bodyCL Tryz.prog κho ιh T17 true 300 Tryz.f17 m17
theorem check_b_k : Known Tryz.prog 17 check_b := ⟨⟨Tryz.f17, Tryz.func17, noNum_at noNumTry Tryz.func17, rfl⟩, bodyL_valid hoOk mixTry (ltab_cons v17 ltab_nil) Tryz.func17 fill17⟩
theorem check_t (m : Nat) (es : List SV) : check_b [.nils, .qs 0 38 0 m] [(0, .seq 41 es)] = bif inv m m 0 es && allR es then .ret (.int .i64 0) [] else .fail := by kernel_rfl
def check_s : CSumm := fun args H => match args, H with
 | [.nils, .qs 0 38 0 m], [(0, .seq 41 es)] => .ite (inv m m 0 es && allR es) (.ret (.int .i64 0) []) .fail
 | _, _ => .fail
theorem check_k : Known Tryz.prog 17 check_s := check_b_k.weak (by
 intro args H v ups h
 unfold check_s at h
 split at h
 · rename_i m es
   rw [crun_ite] at h
   refine (congrArg crun (check_t m es)).trans ?_
   rw [crun_cond]
   exact h
 · cases h)
end Go.Proofs.YtecdpdjcojgajaaGreat
