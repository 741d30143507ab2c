/- Routes are divided among messages: the inner loop. -/
import Derived.Test.YtecdpdjcojgajaaGreatPart4
set_option linter.unusedVariables false
set_option linter.unusedSimpArgs false
namespace Go.Proofs.YtecdpdjcojgajaaGreat
open Go.Am
set_option maxRecDepth 100000
noncomputable abbrev T9 := tbl [(37, nb_s), (40, w40_s), (35, big_s)]
theorem t9Ok : KOk Tryz.prog T9 := tbl_cons nb_k (tbl_cons w40_k (tbl_cons big_k ok0))
noncomputable abbrev κr := openT Tryz.prog T9 300 8
theorem krOk : KOk Tryz.prog κr := openT_ok noNumTry mixTry t9Ok 300 8
noncomputable abbrev ιr : Nat → Bool := fun g => inl T9 g && hasBody Tryz.prog g
def A18 : List SV := [.fn (.func 36) [] [.ptr 0 0, .ptr 1 0, .ptr 3 0, .ptr 4 0]]
def H18 (n : Int) (o len : Nat) (es : List SV) (b : Int) (at_ : List SV) : HpL := [(0, .cells 3 [.int .i64 n]), (1, .cells 50 [.qs 2 21 o len]), (2, .seq 32 es), (3, .cells 3 [.int .i64 b]), (4, .cells 73 [.fn (.func 40) [] [.ptr 5 0]]), (5, .cells 39 at_)]
def endN (len : Nat) : Nat := bif Nat.ble len 212 then len else 212
def endB (len : Nat) : Nat := bif Nat.ble len 212 then 50 + 19 * len else 4097
def ok18 (n : Int) (o len : Nat) (es : List SV) (b : Int) (at_ : List SV) : Bool := decide (1 ≤ n ∧ n ≤ len ∧ n ≤ 212 ∧ b = 50 + 19 * n) && (Nat.ble (o + len) es.length && Nat.ble es.length 1000) && allF es && eqLS at_ aX && (bif Nat.ble len 212 then true else Nat.beq o 0 && eqLS (es.take 213) (keysN 213))
def c3 (n : Int) : Chunk := .cells 3 [.int .i64 n]
def s18 : CSumm := fun args H => match args, H with
 | [.fn (.func 36) [] [.ptr 0 0, .ptr 1 0, .ptr 3 0, .ptr 4 0]], [(0, .cells 3 [.int .i64 n]), (1, .cells 50 [.qs 2 21 o len]), (2, .seq 32 es), (3, .cells 3 [.int .i64 b]), (4, .cells 73 [.fn (.func 40) [] [.ptr 5 0]]), (5, .cells 39 at_)] =>
  .ite (ok18 n o len es b at_)
   (.ite (decide (n < len)) (.ite (decide (n < 212)) (.ret (.tup [.int .i64 4]) [(0, some (c3 (endN len))), (3, some (c3 (endB len)))]) (.ret (.tup [.int .i64 4]) [(3, some (c3 (endB len)))])) (.ret (.tup [.int .i64 4]) [])) .fail
 | _, _ => .fail
def mu18 : List SV → HpL → Nat
 | _, [(0, .cells 3 [.int .i64 n]), (1, .cells 50 [.qs 2 21 o len]), _, _, _, _] => (len - n).toNat
 | _, _ => 0
noncomputable def body18 : Code := Tryz.f18.body.getD .skip
noncomputable def c18 : Code := (loopAt 7 body18).getD .skip
noncomputable def e18 : LEnt := { ins := [10], outs := [], keep := [2, 3, 4, 5, 6], size := 40, code := c18, s := s18 }
abbrev W (n : Int) : Int := IntKind.i64.wrap n
def next18 (N : Nat) (n : Int) (o len : Nat) (es : List SV) (b : Int) : CTree :=
 bif Nat.blt ((len : Int) - n).toNat N then bif ok18 n o len es b aX then
  bif decide (n < len) then bif decide (n < 212) then .ret (.tup [.int .i64 4]) [(0, some (c3 (endN len))), (3, some (c3 (endB len)))] else .ret (.tup [.int .i64 4]) [(0, some (c3 n)), (3, some (c3 (endB len)))]
  else .ret (.tup [.int .i64 4]) [(0, some (c3 n)), (3, some (c3 b))] else .fail else .fail
theorem r18_t (N o len : Nat) (n b : Int) (es : List SV) : loopOnce Tryz.prog κr ιr (ltab []) true 300 e18 { e18 with s := boundT mu18 s18 N } c18 A18 (H18 n o len es b aX) =
 bif n == (len : Int) then .ret (.tup [.int .i64 4]) [] else bif inB n len then bif decide (o + n.toNat < es.length) then bif isF (nlAt (es.getD (o + n.toNat) .junk)) then
  bif decide (W (b + 19) > 4096) then bif decide ((0 : Int) ≤ 0) && decide (0 ≤ W (n + 1)) && decide (W (n + 1) ≤ len) then
   bif Nat.blt 0 ((W (n + 1)).toNat - Int.toNat 0) && Nat.ble (o + Int.toNat 0 + ((W (n + 1)).toNat - Int.toNat 0)) es.length && Nat.ble es.length 1000 then
    bif eqLS (mX ((W (n + 1)).toNat - Int.toNat 0)) (mX 213) && eqLS ((es.drop (o + Int.toNat 0)).take ((W (n + 1)).toNat - Int.toNat 0)) (keysN 213) then .ret (.tup [.int .i64 4]) [(3, some (c3 (W (b + 19))))] else .fail
   else .fail else .fail
  else next18 N (W (n + 1)) o len es (W (b + 19))
 else .fail else .fail else .fail := by kernel_rfl
end Go.Proofs.YtecdpdjcojgajaaGreat
/- Routes are divided among messages. -/
namespace Go.Proofs.YtecdpdjcojgajaaGreat
open Go.Am
set_option maxRecDepth 100000
theorem ok18_iff {n b : Int} {o len : Nat} {es at_ : List SV} (h : ok18 n o len es b at_ = true) : 1 ≤ n ∧ n ≤ len ∧ n ≤ 212 ∧ b = 50 + 19 * n ∧ o + len ≤ es.length ∧ es.length ≤ 1000 ∧ allF es = true ∧ at_ = aX ∧ (212 < len → o = 0 ∧ eqLS (es.take 213) (keysN 213) = true) := by
 unfold ok18 at h
 simp only [Bool.and_eq_true, decide_eq_true_eq, Nat.ble_eq] at h
 obtain ⟨⟨⟨⟨h1, h5, h6⟩, h7⟩, h8⟩, h9⟩ := h
 refine ⟨h1.1, h1.2.1, h1.2.2.1, h1.2.2.2, h5, h6, h7, eqLS_eq h8, fun hl => ?_⟩
 have : Nat.ble len 212 = false := by
  cases hb : Nat.ble len 212 with
  | false => rfl
  | true => have := Nat.le_of_ble_eq_true hb; omega
 rw [this, cond_false, Bool.and_eq_true] at h9
 exact ⟨Nat.eq_of_beq_eq_true h9.1, h9.2⟩
theorem ok18_next {n b : Int} {o len : Nat} {es at_ : List SV} (h : ok18 n o len es b at_ = true) (hl : n < len) (hn : n < 212) : ok18 (n + 1) o len es (b + 19) at_ = true := by
 unfold ok18 at h ⊢
 rw [Bool.and_eq_true, Bool.and_eq_true, Bool.and_eq_true, Bool.and_eq_true] at h ⊢
 obtain ⟨⟨⟨⟨h1, h5⟩, h7⟩, h8⟩, h9⟩ := h
 refine ⟨⟨⟨⟨?_, h5⟩, h7⟩, h8⟩, h9⟩
 rw [decide_eq_true_eq] at h1 ⊢
 omega
theorem mX_refl : eqLS (mX 213) (mX 213) = true := by kernel_rfl
theorem endN_le {len : Nat} (h : len ≤ 212) : endN len = len ∧ endB len = 50 + 19 * len := by
 unfold endN endB; rw [Nat.ble_eq_true_of_le h]; exact ⟨rfl, rfl⟩
theorem endN_gt {len : Nat} (h : 212 < len) : endN len = 212 ∧ endB len = 4097 := by
 have : Nat.ble len 212 = false := by
  cases hb : Nat.ble len 212 with
  | false => rfl
  | true => have := Nat.le_of_ble_eq_true hb; omega
 unfold endN endB; rw [this]; exact ⟨rfl, rfl⟩
theorem v18 : ValidL Tryz.prog e18 := loop_valid (κ := κr) (ι := ιr) (T := ltab []) (sp := true) (fuel := 300) (c := c18) (μ := mu18) krOk mixTry ltab_nil (show fillC (ltab []) c18 = c18 by kernel_rfl) (by
 intro N args H r hb hr
 have hr' : crun (s18 args H) = some r := hr
 unfold s18 at hr'
 split at hr'
 · rename_i n o len es b at_
   rw [crun_ite] at hr'
   cases hc : ok18 n o len es b at_ with
   | false => rw [hc] at hr'; cases hr'
   | true =>
    rw [hc, cond_true, crun_ite, crun_ite] at hr'
    obtain ⟨h1, h2, h3, h4, h5, h6, h7, rfl, h9⟩ := ok18_iff hc
    have hb' : ((len : Int) - n).toNat < N + 1 := by
     have : Nat.blt ((len : Int) - n).toNat (N + 1) = true := hb
     rwa [Nat.blt_eq] at this
    rw [← hr']
    refine (congrArg crun (r18_t N o len n b es)).trans ?_
    by_cases hlt : n < len
    · have hne : (n == (len : Int)) = false := by rw [beq_eq_false_iff_ne]; omega
      have hin : inB n len = true := by unfold inB; simp; omega
      have hk2 : o + n.toNat < es.length := by omega
      have hok := allF_at h7 hk2
      have hwb : W (b + 19) = b + 19 := w64_id (by omega) (by omega)
      have hwn : W (n + 1) = n + 1 := w64_id (by omega) (by omega)
      rw [hne, hin, decide_eq_true hk2, hok, hwb, hwn, decide_eq_true hlt]
      by_cases hbig : n < 212
      · rw [decide_eq_false (show ¬ b + 19 > 4096 by omega), decide_eq_true hbig]
        simp only [cond_true, cond_false]
        unfold next18
        have hbl : Nat.blt ((len : Int) - (n + 1)).toNat N = true := by rw [Nat.blt_eq]; omega
        rw [hbl, ok18_next hc hlt hbig]
        simp only [cond_true]
        by_cases hl2 : n + 1 < len
        · rw [decide_eq_true hl2]
          simp only [cond_true]
          by_cases hb2 : n + 1 < 212
          · rw [decide_eq_true hb2]; rfl
          · rw [decide_eq_false hb2]
            have e : ((endN len : Nat) : Int) = n + 1 := by rw [(endN_gt (by omega)).1]; omega
            rw [e]; rfl
        · rw [decide_eq_false hl2]
          obtain ⟨e1, e2⟩ := endN_le (show len ≤ 212 by omega)
          have e : ((endN len : Nat) : Int) = n + 1 := by rw [e1]; omega
          have e' : ((endB len : Nat) : Int) = b + 19 := by rw [e2]; omega
          rw [e, e']; rfl
      · obtain rfl : n = 212 := by omega
        obtain ⟨rfl, h10⟩ := h9 (by omega)
        have e' : ((endB len : Nat) : Int) = b + 19 := by rw [(endN_gt (show 212 < len by omega)).2]; omega
        rw [decide_eq_true (show b + 19 > 4096 by omega), decide_eq_false hbig, e']
        have c1 : (decide ((0 : Int) ≤ 0) && decide ((0 : Int) ≤ 212 + 1) && decide ((212 : Int) + 1 ≤ len)) = true := by
         rw [decide_eq_true (show (212 : Int) + 1 ≤ len by omega)]; rfl
        have c2 : (Nat.blt 0 (((212 : Int) + 1).toNat - Int.toNat 0) && Nat.ble (0 + Int.toNat 0 + (((212 : Int) + 1).toNat - Int.toNat 0)) es.length && Nat.ble es.length 1000) = true := by
         rw [Nat.ble_eq_true_of_le (show 0 + Int.toNat 0 + (((212 : Int) + 1).toNat - Int.toNat 0) ≤ es.length by
          show 213 ≤ es.length
          omega), Nat.ble_eq_true_of_le h6]; rfl
        have c3' : (eqLS (mX (((212 : Int) + 1).toNat - Int.toNat 0)) (mX 213) && eqLS ((es.drop (0 + Int.toNat 0)).take (((212 : Int) + 1).toNat - Int.toNat 0)) (keysN 213)) = true := by
         show (eqLS (mX 213) (mX 213) && eqLS ((es.drop 0).take 213) (keysN 213)) = true
         rw [mX_refl, List.drop_zero, h10]; rfl
        rw [c1, c2, c3']
        rfl
    · have heq : (n == (len : Int)) = true := by rw [beq_iff_eq]; omega
      rw [heq, decide_eq_false hlt]; rfl
 · cases hr')
noncomputable abbrev T18 : LTab := ltab [("s", e18)]
noncomputable def m18 : Code := markC [(7, "s")] body18
theorem fill18 : Tryz.f18.body = some (fillC T18 m18) := by kernel_rfl
noncomputable abbrev Tf := tbl [(40, w40_s), (35, by_s)]
theorem tfOk : KOk Tryz.prog Tf := tbl_cons w40_k (tbl_cons by_k ok0)
noncomputable abbrev κf := openT Tryz.prog Tf 300 8
theorem kfOk : KOk Tryz.prog κf := openT_ok noNumTry mixTry tfOk 300 8
noncomputable abbrev ιf : Nat → Bool := fun g => inl Tf g && hasBody Tryz.prog g
noncomputable abbrev fill_b : CSumm := bodyCL Tryz.prog κf ιf T18 true 300 Tryz.f18 m18
theorem fill_b_k : Known Tryz.prog 18 fill_b := ⟨⟨Tryz.f18, Tryz.func18, noNum_at noNumTry Tryz.func18, rfl⟩, bodyL_valid kfOk mixTry (ltab_cons v18 ltab_nil) Tryz.func18 fill18⟩
end Go.Proofs.YtecdpdjcojgajaaGreat
/- 'AdvertNames': what single calls come to. -/
namespace Go.Proofs.YtecdpdjcojgajaaGreat
open Go.Am
set_option maxRecDepth 100000
def msgF (l : List SV) : SV := .agg ([.int .i64 2, .int .u32 0, .int .i64 0, .int .u32 0, .int .i64 0, .bool false, .int .i64 0, .int .i64 0] ++ aX ++ [.psl 32 l, .psl 32 []])
def entF : MEnt := ⟨[.qs 0 21 0 300, .fn (.func 40) [] [.ptr 1 0]], [(0, .seq 32 (keysN 300)), (1, .cells 39 aX)], .qs 2 25 0 2, [(2, some (.seq 57 [msgF ((keysN 300).take 212), msgF ((keysN 300).drop 212)]))]⟩
theorem runF : callK (tbl [(18, fill_b)]) 18 entF.args entF.H = some (entF.v, entF.ups) := by kernel_rfl
def entF0 : MEnt := ⟨[.nils, .fn (.func 19) [] []], [], .nils, []⟩
theorem runF0 : callK (closedS Tryz.prog 300 12) 18 entF0.args entF0.H = some (entF0.v, entF0.ups) := by kernel_rfl
def entC0 : MEnt := ⟨[.nils, .nils], [], .int .i64 0, []⟩
theorem runC0 : callK (closedS Tryz.prog 300 12) 17 entC0.args entC0.H = some (entC0.v, entC0.ups) := by kernel_rfl
def entC9 : MEnt := ⟨[.sl 0 21 0 1, .nils], [(0, .cells 32 (cellsN ⟨9, 0, 0, 0, 0, 0, 0, 0, 0, 0, 0, 0, 0, 0, 0, false, 0, 0, 0, 0, 0⟩))], .int .i64 6, []⟩
theorem runC9 : callK (closedS Tryz.prog 300 12) 17 entC9.args entC9.H = some (entC9.v, entC9.ups) := by kernel_rfl
def entG0 : MEnt := ⟨[.nils], [], .nils, []⟩
theorem runG0 : callK (closedS Tryz.prog 300 12) 20 entG0.args entG0.H = some (entG0.v, entG0.ups) := by kernel_rfl
def hasQs : List SV → Bool
 | .qs _ _ _ _ :: _ => true
 | _ :: .qs _ _ _ _ :: _ => true
 | _ => false
def c17_s : CSumm := orS hasQs check_s (memoS [entC0, entC9])
def c18_s : CSumm := orS hasQs (memoS [entF]) (memoS [entF0])
def c20_s : CSumm := orS hasQs grp_s (memoS [entG0])
theorem clOk : KOk Tryz.prog (closedS Tryz.prog 300 12) := closed_ok noNumTry mixTry 300 12
theorem c17_k : Known Tryz.prog 17 c17_s := known_orS check_k (known_memo clOk noNumTry Tryz.func17 rfl ⟨runC0, runC9, trivial⟩)
theorem c18_k : Known Tryz.prog 18 c18_s := known_orS (known_memo (tbl_cons fill_b_k ok0) noNumTry Tryz.func18 rfl ⟨runF, trivial⟩) (known_memo clOk noNumTry Tryz.func18 rfl ⟨runF0, trivial⟩)
theorem c20_k : Known Tryz.prog 20 c20_s := known_orS grp_k (known_memo clOk noNumTry Tryz.func20 rfl ⟨runG0, trivial⟩)
noncomputable abbrev TL := tbl [(4, lives_s), (17, c17_s), (18, c18_s), (20, c20_s), (31, c31), (32, c32), (33, c33)]
theorem tlOk : KOk Tryz.prog TL := tbl_cons lives_k (tbl_cons c17_k (tbl_cons c18_k (tbl_cons c20_k (tbl_cons c31_k (tbl_cons c32_k (tbl_cons c33_k ok0))))))
end Go.Proofs.YtecdpdjcojgajaaGreat
/- 'AdvertNames': what Pack comes to. -/
namespace Go.Proofs.YtecdpdjcojgajaaGreat
open Go.Am
set_option maxRecDepth 100000
def entP : MEnt := ⟨[.nils, .qs 0 38 0 300], [(0, .seq 41 (manyR 300))], .tup [.qs 1 25 0 2, .int .i64 0], [(1, some (.seq 57 [msgF ((keysN 300).take 212), msgF ((keysN 300).drop 212)]))]⟩
theorem runP : callK (closedT Tryz.prog TL 3000 12) 7 entP.args entP.H = some (entP.v, entP.ups) := by kernel_rfl
def entP0 : MEnt := ⟨[.nils, .nils], [], .tup [.nils, .int .i64 0], []⟩
theorem runP0 : callK (closedT Tryz.prog TL 3000 12) 7 entP0.args entP0.H = some (entP0.v, entP0.ups) := by kernel_rfl
def entP9 : MEnt := ⟨[.sl 0 21 0 1, .nils], entC9.H, .tup [.nils, .int .i64 6], []⟩
theorem runP9 : callK (closedT Tryz.prog TL 3000 12) 7 entP9.args entP9.H = some (entP9.v, entP9.ups) := by kernel_rfl
def c7_s : CSumm := memoS [entP, entP0, entP9]
theorem c7_k : Known Tryz.prog 7 c7_s := known_memo (closedT_ok noNumTry mixTry tlOk 3000 12) noNumTry Tryz.func7 rfl ⟨runP, runP0, runP9, trivial⟩
def flR (n p : Int) : List SV := [.int .i64 3, .int .u64 (IntKind.u64.wrap (281474976710656 + IntKind.u64.wrap n)), .int .u8 0, .int .u8 0, .int .u8 0, .int .u8 0, .int .u8 0, .int .u8 0, .int .u8 0, .int .u8 0, .int .u8 0, .int .u8 0, .int .u32 0, .int .u64 0, .int .u32 (IntKind.u32.wrap (IntKind.i64.wrap (10 + n))), .bool true, .int .u32 0, .int .i64 0, .int .u32 0, .int .u32 0, .int .u32 0, .int .i64 0, .nils, .int .u32 1, .bool false, .int .u32 0, .bool true, .int .u32 p, .bool false, .int .u32 0, .nils, .nils, .int .i64 0, .int .u32 0, .int .u32 0, .int .u32 0, .int .u32 0, .bool false]
theorem fl_t (n p : Int) : opn8 (tbl []) Tryz.f5 [.int .i64 n, .int .u32 p] [] = .ret (.agg (flR n p)) [] := by kernel_rfl
def fl_s : CSumm := fun args H => match args, H with
 | [.int .i64 n, .int .u32 p], [] => .ret (.agg (flR n p)) []
 | _, _ => .fail
theorem fl_k : Known Tryz.prog 5 fl_s := (openKnown8 ok0 Tryz.func5 rfl).weak (by
 intro args H v ups h
 unfold fl_s at h
 split at h
 · exact (congrArg crun (fl_t _ _)).trans h
 · cases h)
noncomputable abbrev TK := tbl [(4, lives_s), (5, fl_s), (7, c7_s), (31, c31), (32, c32), (33, c33)]
theorem tkOk : KOk Tryz.prog TK := tbl_cons lives_k (tbl_cons fl_k (tbl_cons c7_k (tbl_cons c31_k (tbl_cons c32_k (tbl_cons c33_k ok0)))))
end Go.Proofs.YtecdpdjcojgajaaGreat
/- 'AdvertNames': many routes are made: the loop. -/
namespace Go.Proofs.YtecdpdjcojgajaaGreat
open Go.Am
set_option maxRecDepth 100000
def flP (n : Int) : List SV := [.int .i64 3, .int .u64 (IntKind.u64.wrap (281474976710656 + IntKind.u64.wrap n)), .int .u8 0, .int .u8 0, .int .u8 0, .int .u8 0, .int .u8 0, .int .u8 0, .int .u8 0, .int .u8 0, .int .u8 0, .int .u8 0, .int .u32 0, .int .u64 0, .int .u32 (IntKind.u32.wrap (IntKind.i64.wrap (10 + n))), .bool true, .int .u32 0, .int .i64 0, .int .u32 0, .int .u32 0, .int .u32 0, .int .i64 0, .psl 26 [], .int .u32 1, .bool false, .int .u32 0, .bool true, .int .u32 100, .bool false, .int .u32 0, .psl 28 [], .psl 80 [], .int .i64 0, .int .u32 0, .int .u32 0, .int .u32 0, .int .u32 0, .bool false]
def fls : Nat → Int → List SV
 | 0, _ => []
 | j + 1, i => .agg (flP i) :: fls j (i + 1)
def s3 : CSumm := fun args H => match args, H with
 | [.nils, .int .i64 i], [] => .ite (decide (i = 0)) (.ret (.tup [.int .i64 2, .qs 0 38 0 300]) [(0, some (.seq 41 (fls 300 0)))]) .fail
 | [.qs 0 38 0 m, .int .i64 i], [(0, .seq 41 es)] => .ite (Nat.beq m es.length && decide (0 ≤ i ∧ i ≤ 300 ∧ (m : Int) = i))
   (.ite (decide (i < 300)) (.ret (.tup [.int .i64 2, .qs 1 38 0 (es.length + lft 300 i)]) [(0, none), (1, some (.seq 41 (es ++ fls (lft 300 i) i)))]) (.ret (.tup [.int .i64 2, .qs 0 38 0 m]) [])) .fail
 | _, _ => .fail
def mu3 : List SV → HpL → Nat
 | [_, .int _ i], _ => lft 300 i
 | _, _ => 0
noncomputable abbrev κm := openT Tryz.prog (tbl [(5, fl_s)]) 300 8
theorem kmOk : KOk Tryz.prog κm := openT_ok noNumTry mixTry (tbl_cons fl_k ok0) 300 8
noncomputable abbrev ιm : Nat → Bool := fun g => inl (tbl [(5, fl_s)]) g && hasBody Tryz.prog g
noncomputable def body3 : Code := Tryz.f3.body.getD .skip
noncomputable def code3 : Code := (loopAt 15 body3).getD .skip
noncomputable def e3 : LEnt := { ins := [14, 15], outs := [14], keep := [1, 2, 3, 5, 7, 9, 10, 11, 12, 13], size := 198, code := code3, s := s3 }
noncomputable def fit41 (k : Nat) : Bool := decide (k ≤ 9223372036854775807) && decide (k * Tryz.prog.types[41].bytes ≤ 140737488355328)
def ok3 (m : Nat) (i : Int) (es : List SV) : Bool := Nat.beq m es.length && decide (0 ≤ i ∧ i ≤ 300 ∧ (m : Int) = i)
def next3 (N : Nat) (i : Int) (es : List SV) (m nw : Nat) (ups : List (Nat × Option Chunk)) : CTree :=
 bif Nat.blt (lft 300 i) N then bif ok3 m i es then bif decide (i < 300) then .ret (.tup [.int .i64 2, .qs nw 38 0 (es.length + lft 300 i)]) (ups ++ [(nw, some (.seq 41 (es ++ fls (lft 300 i) i)))])
  else .ret (.tup [.int .i64 2, .qs nw 38 0 m]) (ups ++ [(nw, some (.seq 41 es))]) else .fail else .fail
theorem r3_n (N : Nat) : loopOnce Tryz.prog κm ιm (ltab []) true 300 e3 { e3 with s := boundT mu3 s3 N } code3 [.nils, .int .i64 0] [] = next3 N 1 [.agg (flP 0)] 1 0 [] := by kernel_rfl
theorem r3_t (N m : Nat) (i : Int) (es : List SV) : loopOnce Tryz.prog κm ιm (ltab []) true 300 e3 { e3 with s := boundT mu3 s3 N } code3 [.qs 0 38 0 m, .int .i64 i] [(0, .seq 41 es)] =
 bif decide (i < 300) then bif decide (m = es.length) then bif fit41 (es.length + 1) then next3 N (IntKind.i64.wrap (i + 1)) (es ++ [.agg (flP i)]) (es.length + 1) 1 [(0, none)] else .fail else .fail
 else .ret (.tup [.int .i64 2, .qs 0 38 0 m]) [] := by kernel_rfl
end Go.Proofs.YtecdpdjcojgajaaGreat
/- 'AdvertNames': the law's run. -/
namespace Go.Proofs.YtecdpdjcojgajaaGreat
open Go.Am
set_option maxRecDepth 100000
theorem bytes41 : Nat.ble Tryz.prog.types[41].bytes 10000 = true := by kernel_rfl
theorem fit41_ok {k : Nat} (h : k ≤ 1000) : fit41 k = true := by
 have hb := Nat.le_of_ble_eq_true bytes41
 have := Nat.mul_le_mul h hb
 unfold fit41
 rw [decide_eq_true (by omega), decide_eq_true (by omega)]; rfl
theorem fls_succ (j : Nat) (i : Int) : fls (j + 1) i = .agg (flP i) :: fls j (i + 1) := rfl
theorem v3 : ValidL Tryz.prog e3 := loop_valid (κ := κm) (ι := ιm) (T := ltab []) (sp := true) (fuel := 300) (c := code3) (μ := mu3) kmOk mixTry ltab_nil (show fillC (ltab []) code3 = code3 by kernel_rfl) (by
 intro N args H r hb hr
 have hr' : crun (s3 args H) = some r := hr
 unfold s3 at hr'
 split at hr'
 · rename_i i
   rw [crun_ite, cond_eq_ite] at hr'
   split at hr'
   · rename_i hc
     obtain rfl := of_decide_eq_true hc
     have hb' : lft 300 0 < N + 1 := by
      have : Nat.blt (lft 300 0) (N + 1) = true := hb
      rwa [Nat.blt_eq] at this
     refine (congrArg crun (r3_n N)).trans ?_
     rw [← hr']
     unfold next3
     rw [show (1 : Int) = 0 + 1 from rfl, lft_lt hb' (by omega)]
     rfl
   · cases hr'
 · rename_i m i es
   rw [crun_ite, cond_eq_ite] at hr'
   split at hr'
   · rename_i hc
     rw [crun_ite] at hr'
     simp only [Bool.and_eq_true, decide_eq_true_eq] at hc
     obtain ⟨h1, h2, h3, h4⟩ := hc
     obtain rfl := Nat.eq_of_beq_eq_true h1
     have hb' : lft 300 i < N + 1 := by
      have : Nat.blt (lft 300 i) (N + 1) = true := hb
      rwa [Nat.blt_eq] at this
     refine (congrArg crun (r3_t N es.length i es)).trans ?_
     rw [← hr']
     by_cases hlt : i < 300
     · have hw : IntKind.i64.wrap (i + 1) = i + 1 := w64_id (by omega) (by omega)
       have hl : (es ++ [SV.agg (flP i)]).length = es.length + 1 := by simp
       have hg : ok3 (es.length + 1) (i + 1) (es ++ [SV.agg (flP i)]) = true := by
        unfold ok3
        rw [hl, Nat.beq_refl, decide_eq_true (by omega)]; rfl
       rw [decide_eq_true hlt, decide_eq_true rfl, fit41_ok (by omega), hw, lft_succ hlt]
       unfold next3
       rw [lft_lt hb' hlt, hg, hl]
       simp only [cond_true, fls_succ, List.append_assoc, List.cons_append, List.nil_append]
       by_cases hl2 : i + 1 < 300
       · rw [decide_eq_true hl2, show es.length + 1 + lft 300 (i + 1) = es.length + (lft 300 (i + 1) + 1) by omega]; rfl
       · have h0 : lft 300 (i + 1) = 0 := by unfold lft; omega
         rw [decide_eq_false hl2, h0]; rfl
     · rw [decide_eq_false hlt]; rfl
   · cases hr'
 · cases hr')
noncomputable abbrev T3 : LTab := ltab [("s", e3)]
noncomputable def m3 : Code := markC [(15, "s")] body3
theorem fill3 : Tryz.f3.body = some (fillC T3 m3) := by kernel_rfl
noncomputable abbrev κL := closedT Tryz.prog TK 3000 12
theorem kLOk : KOk Tryz.prog κL := closedT_ok noNumTry mixTry tkOk 3000 12
noncomputable abbrev ιL : Nat → Bool := fun g => inl TK g && hasBody Tryz.prog g
noncomputable abbrev law_b : CSumm := bodyCL Tryz.prog κL ιL T3 false 3000 Tryz.f3 m3
theorem law_b_k : Known Tryz.prog 3 law_b := ⟨⟨Tryz.f3, Tryz.func3, noNum_at noNumTry Tryz.func3, rfl⟩, bodyL_valid kLOk mixTry (ltab_cons v3 ltab_nil) Tryz.func3 fill3⟩
theorem law_run : crun (law_b [] []) = some (.bool true, []) := by kernel_rfl
theorem law_k : Known Tryz.prog 3 (constS (.bool true)) := by
 refine ⟨law_b_k.fn, ?_⟩
 intro args H v ups hr
 have : args = [] ∧ H = [] ∧ v = .bool true ∧ ups = [] := by
  unfold constS at hr
  split at hr
  · simp only [crun, Option.some.injEq, Prod.mk.injEq] at hr
    exact ⟨rfl, rfl, hr.1.symm, hr.2.symm⟩
  · cases hr
 obtain ⟨rfl, rfl, rfl, rfl⟩ := this
 exact law_b_k.ok [] [] _ [] law_run
end Go.Proofs.YtecdpdjcojgajaaGreat
