/- The reference's Parse, known. -/
import Derived.Test.YtpelignoebgkbaaGreatDoorPart11
import Derived.Test.YtpelignoebgkbaaGreatDoorMachine9
import Derived.Lib.Walk
import Derived.WalkKit
import Derived.BigCall
import Derived.BigGuard
set_option linter.unusedVariables false
set_option linter.unusedSimpArgs false
namespace Go.Proofs.YtpelignoebgkbaaGreatDoor
open Go.Am
set_option maxRecDepth 100000
theorem qr_valid : ValidL Tryz.prog e9 := loop_valid5 (T := ltab []) (sp := true) (fuel := 300) (c := c9) (μ := qrM) mixTry ltab_nil (show fillC (ltab []) c9 = c9 by kernel_rfl) (by
 intro N args H v' ups' hbt hr
 unfold e9 qr_s at hr
 simp only [] at hr
 split at hr
 · rename_i ls i m e0 a0 es
   rw [crun_ite] at hr
   cases hc : dec (plOk ls ls.length i m es) with
   | false => rw [hc] at hr; cases hr
   | true =>
    rw [hc, cond_true] at hr
    obtain ⟨-, i0, i1, rfl, mi, nl, hls⟩ := dec_iff.1 hc
    have hN : Nat.blt ((ls.length : Int) - i).toNat (N + 1) = true := hbt
    rw [Nat.blt_eq] at hN
    refine ⟨κQ, fun _ => false, κQok, ?_⟩
    have ht := qr_t N ls es i e0 a0 es.length
    obtain ⟨k, rfl⟩ := Int.eq_ofNat_of_zero_le i0
    have hk : ((k : Nat) : Int).toNat = k := rfl
    rw [hk] at hr ht
    by_cases hi : (k : Int) < ls.length
    · have hkl : k < ls.length := by omega
      have hlk : (asS (ls.getD k .junk)).length ≤ 1000000 := hls _ (by simp [List.getD_eq_getElem?_getD, hkl])
      rw [decide_eq_true hi, cond_true, inB_ok (by omega) (by omega), cond_true, decide_eq_true hlk, cond_true] at ht
      rw [getD_cons' hkl, pF] at hr
      have e1 : w64 ((k : Int) + 1) = ((k + 1 : Nat) : Int) := (w64_id (by omega) (by omega)).trans (by omega)
      generalize hL : lineF (asS (ls.getD k .junk)) = L at hr ht
      cases he : L.2.2.1 != 0 with
      | true =>
       rw [he, cond_true] at ht hr
       have : (L.2.2.1 == 0) = false := by simpa [bne] using he
       rw [crun_ite, this, cond_false] at hr
       refine ⟨_, _, congrArg crun ht, ?_⟩
       simp only [plR, crun] at hr
       cases hr
       exact pl_ret
      | false =>
       rw [he, cond_false] at ht hr
       have hb := of_decide_eq_true b38
       have hb2 : (es.length + 1) * Tryz.prog.types[27].bytes ≤ (es.length + 1) * 1000 := Nat.mul_le_mul_left _ hb
       cases hs : L.2.1 with
       | true =>
        rw [hs, cond_true] at ht hr
        rw [decide_eq_true rfl, cond_true, decide_eq_true (show es.length + 1 ≤ 9223372036854775807 by omega), decide_eq_true (show (es.length + 1) * Tryz.prog.types[27].bytes ≤ 140737488355328 by omega), Bool.and_self, cond_true, e1] at ht
        unfold qrN at ht
        rw [show Nat.blt ((ls.length : Int) - ((k + 1 : Nat) : Int)).toNat N = true by rw [Nat.blt_eq]; omega, cond_true, dec_iff.2 ⟨rfl, by omega, by omega, by simp, by omega, nl, hls⟩, cond_true, show ((k + 1 : Nat) : Int).toNat = k + 1 from rfl] at ht
        refine ⟨v', ups', (congrArg crun ht).trans ?_, .same fun _ => rfl⟩
        rw [crun_cond]
        rw [crun_ite] at hr
        simp only [List.append_assoc, List.singleton_append]
        exact hr
       | false =>
        rw [hs, cond_false] at ht hr
        rw [e1] at ht
        unfold qrN' at ht
        rw [show Nat.blt ((ls.length : Int) - ((k + 1 : Nat) : Int)).toNat N = true by rw [Nat.blt_eq]; omega, cond_true, dec_iff.2 ⟨rfl, by omega, by omega, rfl, by omega, nl, hls⟩, cond_true, show ((k + 1 : Nat) : Int).toNat = k + 1 from rfl] at ht
        rw [crun_ite] at hr
        have hcast : ((k : Nat) : Int) + 1 = ((k + 1 : Nat) : Int) := by omega
        rw [hcast] at hr
        cases hq : ((pF (ls.drop (k + 1)) ((k + 1 : Nat) : Int)).2.1 == 0) with
        | true =>
         rw [hq, cond_true] at ht hr
         exact ⟨v', ups', (congrArg crun ht).trans hr, .same fun _ => rfl⟩
        | false =>
         rw [hq, cond_false] at ht hr
         obtain ⟨ups, g1, g2⟩ := pl_flip (H := [(0, .cells 32 [.int .i64 e0, .int .i64 a0]), (1, .seq 27 es)]) hr
         exact ⟨v', ups, (congrArg crun ht).trans g1, .same g2⟩
    · rw [decide_eq_false hi, cond_false] at ht
      have : ls.drop k = [] := List.drop_eq_nil_of_le (by omega)
      rw [this] at hr
      refine ⟨_, _, congrArg crun ht, ?_⟩
      simp only [pF, List.append_nil, plX, crun, beq_self_eq_true, if_true] at hr
      cases hr
      exact pl_exit
 · cases hr)
abbrev fs9 : List (Option (Nat × Nat)) := [none, none, none, some (27, 8)]
noncomputable def e9j : LEnt := { e9 with s := inN fs9 qr_s }
theorem qr_in : ValidL Tryz.prog e9j := loop_inN qr_valid (fs := fs9)
noncomputable abbrev T9 : LTab := ltab [("q", e9j)]
noncomputable abbrev m9 : Code := markC [(6, "q")] body9
noncomputable def rparse_b : CSumm := bodyCL Tryz.prog κQ (fun _ => false) T9 true 300 Tryz.f9 m9
theorem rparse_k0 : Known Tryz.prog 9 rparse_b := ⟨⟨Tryz.f9, Tryz.func9, noNum_at noNumTry Tryz.func9, rfl⟩, bodyL_valid κQok mixTry (ltab_cons qr_in ltab_nil) Tryz.func9 (show Tryz.f9.body = some (fillC T9 m9) by kernel_rfl)⟩
theorem rparse_t (s : List UInt8) : rparse_b [.str s] [] = bif decide (s.length ≤ 1000000) then bif decide ((((spl 10 s).map SV.str).length : Int) > 1000) then .ret (.tup [.nils, .agg [.int .i64 5, .int .i64 1000]]) [] else
 bif dec (plOk ((spl 10 s).map SV.str) ((spl 10 s).map SV.str).length 0 0 []) then paQ (pF (((spl 10 s).map SV.str).drop (0 : Int).toNat) 0) else .fail else .fail := by kernel_rfl
theorem splR_cnt (c : UInt8) : ∀ (s cur : List UInt8), (splR (c.toNat : Int) s cur).length = Lib.countByte s c + 1
 | [], cur => by simp [splR, Lib.countByte]
 | x :: xs, cur => by
  rw [splR]
  have hb : (((x.toNat : Nat) : Int) == (c.toNat : Int)) = (x == c) := by
   rw [Bool.eq_iff_iff, beq_iff_eq, beq_iff_eq]
   constructor
   · intro e; apply UInt8.toNat_inj.1; omega
   · intro e; rw [e]
  have e : Lib.countByte (x :: xs) c = Lib.countByte xs c + (bif x == c then 1 else 0) := by
   unfold Lib.countByte
   rw [List.count_cons]
   cases x == c <;> rfl
  rw [hb, e]
  cases x == c with
  | true => rw [cond_true, List.length_cons, splR_cnt c xs []]; rfl
  | false => rw [cond_false, splR_cnt c xs _]; rfl
theorem rparse_k : Known Tryz.prog 9 parse_s := known_told rparse_k0 (by
 intro args H v' ups' h
 unfold parse_s at h
 split at h
 · rename_i s
   rw [crun_ite, cond_eq_ite] at h
   split at h
   · rename_i hc
     have hs := of_decide_eq_true hc
     have ht := rparse_t s
     have hd : ((spl 10 s).map SV.str).drop (0 : Int).toNat = (spl 10 s).map SV.str := rfl
     rw [hd] at ht
     have hcnt : (spl 10 s).length = Lib.countByte s 10 + 1 := splR_cnt 10 s []
     unfold parseF at h
     by_cases h1 : 1000 ≤ Lib.countByte s 10
     · rw [decide_eq_true hs, cond_true, decide_eq_true (show ((((spl 10 s).map SV.str).length : Nat) : Int) > 1000 by rw [List.length_map, hcnt]; omega), cond_true] at ht
       rw [if_pos h1] at h
       cases h
       refine ⟨_, _, congrArg crun ht, .inr ⟨.tup (.cons .nils (.cons .rfl' .nil)), fun x c' hx => ⟨c', hx, .rfl'⟩⟩⟩
     · have hl := splR_len 10 s []
       have he := splR_each 10 s []
       rw [decide_eq_true hs, cond_true, decide_eq_false (show ¬ ((((spl 10 s).map SV.str).length : Nat) : Int) > 1000 by rw [List.length_map, hcnt]; omega), cond_false, dec_iff.2 ⟨rfl, Int.le_refl _, by omega, rfl, by simp, by unfold spl; simp; omega, fun l hl => by
        obtain ⟨w, hw, rfl⟩ := List.mem_map.1 hl
        have := he w hw
        show w.length ≤ 1000000
        simp at this; omega⟩, cond_true, pF_eq] at ht
       rw [if_neg h1] at h
       unfold paQ at ht
       by_cases h2 : (pL (spl 10 s) 0).2.1 = 0
       · rw [show ((pL (spl 10 s) 0).2.1 == 0) = true by simpa using h2, cond_true] at ht
         rw [if_pos h2] at h
         cases h
         refine ⟨_, _, congrArg crun ht, .inl ⟨0, 27, _, rfl, .tup (.cons (.qs rfl) (.cons .rfl' .nil)), fun x c' hx => ?_⟩⟩
         simp [updF, HpL.get] at hx
       · rw [show ((pL (spl 10 s) 0).2.1 == 0) = false by simpa using h2, cond_false] at ht
         rw [if_neg h2] at h
         cases h
         refine ⟨_, _, congrArg crun ht, .inr ⟨.tup (.cons .nils (.cons .rfl' .nil)), fun x c' hx => ⟨c', hx, .rfl'⟩⟩⟩
   · cases h
 · cases h)
end Go.Proofs.YtpelignoebgkbaaGreatDoor
/- The reference's decimal digits. -/
namespace Go.Proofs.YtpelignoebgkbaaGreatDoor
open Go.Am
set_option maxRecDepth 100000
noncomputable def rdg_s : CSumm := fun args H => match args, H with
 | [.int .i64 n], [] => .ite (dec (0 ≤ n ∧ n ≤ 9223372036854775807)) (.ret (.str (Lib.decDigits n.toNat)) []) .fail
 | _, _ => .fail
def rdgM : List SV → HpL → Nat
 | [.int _ n], _ => n.toNat
 | _, _ => 0
def d10 : List UInt8 := [48, 49, 50, 51, 52, 53, 54, 55, 56, 57]
noncomputable def rdgN (N : Nat) (n : Int) (K : List UInt8 → CTree) : CTree := bif Nat.blt n.toNat N then bif dec (0 ≤ n ∧ n ≤ 9223372036854775807) then K (Lib.decDigits n.toNat) else .fail else .fail
theorem rdg_t (N : Nat) (n : Int) : opn (tbl [(78, boundT rdgM rdg_s N)]) Tryz.f78 [.int .i64 n] [] =
 bif decide (n < 10) then bif decide (0 ≤ n) && decide (n ≤ w64 (n + 1)) && decide (w64 (n + 1) ≤ d10.length) then .ret (.str ((d10.drop n.toNat).take ((w64 (n + 1)).toNat - n.toNat))) [] else .fail else
 rdgN N (w64 (Int.tdiv n 10)) fun a => rdgN N (Int.tmod n 10) fun b => bif decide (a.length + b.length ≤ 9223372036854775807) then .ret (.str (a ++ b)) [] else .fail := by kernel_rfl
theorem d10_at {n : Nat} (h : n < 10) : (d10.drop n).take 1 = [UInt8.ofNat (48 + n)] := by
 have : ((List.range 10).all fun k => decide ((d10.drop k).take 1 = [UInt8.ofNat (48 + k)])) = true := by kernel_rfl
 exact of_decide_eq_true (List.all_eq_true.1 this n (List.mem_range.2 h))
theorem rdgN_ok {N k : Nat} {K : List UInt8 → CTree} (h : k < N) (hk : k ≤ 9223372036854775807) : rdgN N (k : Int) K = K (Lib.decDigits k) := by
 unfold rdgN
 rw [show ((k : Nat) : Int).toNat = k from rfl, show Nat.blt k N = true by rw [Nat.blt_eq]; omega, cond_true, dec_iff.2 ⟨by omega, by omega⟩, cond_true]
theorem rdg_k : Known Tryz.prog 78 rdg_s := known_rec (μ := rdgM) ⟨Tryz.f78, Tryz.func78, noNum_at noNumTry Tryz.func78, rfl⟩ (fun N hN => (openKnown (tbl_cons hN ok0) Tryz.func78 rfl).weak (by
 intro args H v ups h
 replace h := boundT_at h
 obtain ⟨hb, h⟩ := h
 unfold rdg_s at h
 split at h
 · rename_i n
   rw [crun_ite] at h
   cases hc : dec (0 ≤ n ∧ n ≤ 9223372036854775807) with
   | false => rw [hc] at h; cases h
   | true =>
    obtain ⟨n0, n1⟩ := dec_iff.1 hc
    rw [hc, cond_true] at h
    rw [← h]
    rw [Nat.blt_eq] at hb
    have hb2 : n.toNat < N + 1 := hb
    refine (congrArg crun (rdg_t N n)).trans ?_
    obtain ⟨k, rfl⟩ := Int.eq_ofNat_of_zero_le n0
    have hk : ((k : Nat) : Int).toNat = k := rfl
    rw [hk] at hb2 ⊢
    by_cases h10 : k < 10
    · have e1 : w64 ((k : Int) + 1) = ((k + 1 : Nat) : Int) := (w64_id (by omega) (by omega)).trans (by omega)
      rw [decide_eq_true (show (k : Int) < 10 by omega), cond_true, e1, slB_ok (a := (k : Int)) (b := ((k + 1 : Nat) : Int)) (n := (d10.length : Int)) (by omega) (by omega) (by show ((k + 1 : Nat) : Int) ≤ 10; omega), cond_true]
      rw [show ((k + 1 : Nat) : Int).toNat - k = 1 by omega, d10_at h10, Lib.decDigits_one h10]
    · have e1 : w64 (Int.tdiv (k : Int) 10) = ((k / 10 : Nat) : Int) := by
        rw [tdiv10 (by omega), show w64 ((k : Int) / 10) = (k : Int) / 10 from w64_id (by omega) (by omega)]; omega
      have e2 : Int.tmod (k : Int) 10 = ((k % 10 : Nat) : Int) := by
       rw [Int.tmod_eq_emod_of_nonneg (by omega)]; omega
      have l1 : (Lib.decDigits (k / 10)).length ≤ 20 := by rw [Lib.decDigits_length]; exact Lib.nDigits_le20 _ (by omega)
      have l2 : (Lib.decDigits (k % 10)).length ≤ 20 := by rw [Lib.decDigits_length]; exact Lib.nDigits_le20 _ (by omega)
      rw [decide_eq_false (show ¬ (k : Int) < 10 by omega), cond_false, e1, e2]
      rw [rdgN_ok (k := k / 10) (by omega) (by omega)]
      show crun (rdgN N _ _) = _
      rw [rdgN_ok (k := k % 10) (by omega) (by omega)]
      show crun (bif decide ((Lib.decDigits (k / 10)).length + (Lib.decDigits (k % 10)).length ≤ 9223372036854775807) then CTree.ret (.str (Lib.decDigits (k / 10) ++ Lib.decDigits (k % 10))) [] else .fail) = _
      rw [decide_eq_true (by omega), cond_true]
      rw [show Lib.decDigits k = Lib.decDigits (k / 10) ++ Lib.decDigits (k % 10) by
       rw [Lib.decDigits, dif_neg h10, Lib.decDigits_one (show k % 10 < 10 by omega)]]
 · cases h))
end Go.Proofs.YtpelignoebgkbaaGreatDoor
/- The reference writes a word of a line. -/
namespace Go.Proofs.YtpelignoebgkbaaGreatDoor
open Go.Am
set_option maxRecDepth 100000
def rdgF (n : Int) : List UInt8 := bif decide (n < 0) then [] else Lib.decDigits n.toNat
def in64 (n : Int) : Prop := -9223372036854775808 ≤ n ∧ n ≤ 9223372036854775807
noncomputable def rds_s : CSumm := fun args H => match args, H with
 | [.int .i64 n], [] => .ite (dec (in64 n)) (.ret (.str (rdgF n)) []) .fail
 | _, _ => .fail
theorem rds_t (n : Int) : opn (tbl [(78, rdg_s)]) Tryz.f50 [.int .i64 n] [] = bif decide (n < 0) then .ret (.str []) [] else bif dec (0 ≤ n ∧ n ≤ 9223372036854775807) then .ret (.str (Lib.decDigits n.toNat)) [] else .fail := by kernel_rfl
theorem rds_k : Known Tryz.prog 50 rds_s := (openKnown (tbl_cons rdg_k ok0) Tryz.func50 rfl).weak (by
 intro args H v ups h
 unfold rds_s at h
 split at h
 · rename_i n
   rw [crun_ite] at h
   cases hc : dec (in64 n) with
   | false => rw [hc] at h; cases h
   | true =>
    obtain ⟨n0, n1⟩ := dec_iff.1 hc
    rw [hc, cond_true] at h
    rw [← h]
    refine (congrArg crun (rds_t n)).trans ?_
    unfold rdgF
    by_cases hn : n < 0
    · rw [decide_eq_true hn]; rfl
    · rw [decide_eq_false hn, cond_false, dec_iff.2 ⟨by omega, n1⟩]; rfl
 · cases h)
def rwF (x : Cmd) : Nat → List UInt8
 | 0 => rdgF x.a
 | 1 => rdgF x.b
 | 2 => bif x.b == -1 then [110, 111, 110, 101] else rdgF x.b
 | 3 => rdgF x.b
 | 4 => upF x.up
 | 5 => hwF x.m
 | 6 => ipB x.i
 | _ => rdgF (w64 x.d)
def WOk (x : Cmd) : Prop := in64 x.a ∧ in64 x.b ∧ u32B x.i = true
noncomputable abbrev κv : Nat → Option CSumm := tbl [(50, rds_s), (51, mact_s), (52, ipx_s)]
theorem κvOk : KOk Tryz.prog κv := tbl_cons rds_k (tbl_cons max_k (tbl_cons ipx_k ok0))
noncomputable def rwT (c : Int) (x : Cmd) : CTree := opn κv Tryz.f32 [.agg x.cs, .int .u8 c] []
def sR (l : List UInt8) : CTree := .ret (.str l) []
noncomputable def dsT (n : Int) : CTree := bif dec (in64 n) then sR (rdgF n) else .fail
theorem rw_t0 (x : Cmd) : rwT 97 x = dsT x.a := by kernel_rfl
theorem rw_t1 (x : Cmd) : rwT 98 x = dsT x.b := by kernel_rfl
theorem rw_t2 (x : Cmd) : rwT 115 x = bif x.b == -1 then sR [110, 111, 110, 101] else dsT x.b := by kernel_rfl
theorem rw_t3 (x : Cmd) : rwT 112 x = dsT x.b := by kernel_rfl
theorem rw_t4 (x : Cmd) : rwT 117 x = bif x.up then sR [117, 112] else sR [100, 111, 119, 110] := by kernel_rfl
theorem rw_t5 (x : Cmd) : rwT 109 x = bif x.m == 281474976710655 then sR [97, 108, 108] else sR (mactV x.m).1 := by kernel_rfl
theorem rw_t6 (x : Cmd) : rwT 105 x = bif u32B x.i then sR (ipB x.i) else .fail := by kernel_rfl
theorem rw_t7 (x : Cmd) : rwT 110 x = dsT (w64 x.d) := by kernel_rfl
theorem w64_in (n : Int) : in64 (w64 n) := by
 unfold in64
 simp [IntKind.wrap, IntKind.bits, IntKind.signed]
 split <;> omega
theorem dsT_ok {n : Int} (h : in64 n) : dsT n = sR (rdgF n) := by
 unfold dsT
 rw [dec_iff.2 h, cond_true]
theorem rwT_eq {x : Cmd} (h : WOk x) (q : Nat) (hq : q < 8) : rwT (kdB q) x = sR (rwF x q) := by
 obtain ⟨ha, hb, hi⟩ := h
 match q, hq with
 | 0, _ => exact (rw_t0 x).trans (dsT_ok ha)
 | 1, _ => exact (rw_t1 x).trans (dsT_ok hb)
 | 2, _ =>
  refine (rw_t2 x).trans ?_
  rw [dsT_ok hb]
  unfold rwF
  cases (x.b == -1) <;> rfl
 | 3, _ => exact (rw_t3 x).trans (dsT_ok hb)
 | 4, _ =>
  refine (rw_t4 x).trans ?_
  unfold rwF upF
  cases x.up <;> rfl
 | 5, _ =>
  refine (rw_t5 x).trans ?_
  unfold rwF hwF
  cases (x.m == 281474976710655) <;> rfl
 | 6, _ => refine (rw_t6 x).trans ?_; rw [hi]; rfl
 | 7, _ => exact (rw_t7 x).trans (dsT_ok (w64_in _))
noncomputable def write_s : CSumm := fun args H => match args, H with
 | [.agg cs, .int .u8 c], [] => match kdOf c with
  | some q => .ite (dec (cs = (asCmd cs).cs ∧ WOk (asCmd cs))) (.ret (.str (rwF (asCmd cs) q)) []) .fail
  | none => .fail
 | _, _ => .fail
theorem write_k0 : Known Tryz.prog 32 (opn κv Tryz.f32) := openKnown κvOk Tryz.func32 rfl
theorem write_k : Known Tryz.prog 32 write_s := write_k0.weak (by
 intro args H v ups h
 unfold write_s at h
 split at h
 · rename_i cs c
   split at h
   · rename_i q hq
     rw [crun_ite, cond_eq_ite] at h
     split at h
     · rename_i hc
       obtain ⟨hcs, hw⟩ := dec_iff.1 hc
       have hm := List.mem_of_find?_eq_some hq
       have hc := List.find?_some hq
       have hc2 : kdB q = c := by simpa using hc
       have hq8 : q < 8 := by
        simp only [List.mem_cons, List.not_mem_nil, or_false] at hm
        omega
       subst hc2
       have hk := rwT_eq hw q hq8
       generalize asCmd cs = x at hcs hk h
       subst hcs
       show crun (rwT (kdB q) x) = _
       rw [hk]
       exact h
     · cases h
   · cases h
 · cases h)
end Go.Proofs.YtpelignoebgkbaaGreatDoor
/- The reference's names of kinds. -/
namespace Go.Proofs.YtpelignoebgkbaaGreatDoor
open Go.Am Go.RowKit Go.Sort Go.Lib
set_option maxRecDepth 100000
set_option maxHeartbeats 3200000 in
theorem name_low (k : Int) (hk : k < 1) (w : World) : Calls Tryz.prog 31 #[.int .i64 k] w fun e w' => e = .returned (.string ⟨#[]⟩) ∧ Below w.heap.size w w' := by
 have mixed : Tryz.prog.follows .mixedOrders = true := by kernel_rfl
 have t3 := Tryz.underlying3; have a3 := Tryz.isAgg3; have z3 := Tryz.sizeOf3; have v3 := Tryz.zeroValue3
 have t9 := Tryz.underlying9; have a9 := Tryz.isAgg9; have z9 := Tryz.sizeOf9; have v9 := Tryz.zeroValue9
 have t4 := Tryz.underlying4; have a4 := Tryz.isAgg4; have z4 := Tryz.sizeOf4; have v4 := Tryz.zeroValue4
 have t57 := Tryz.underlying57; have a57 := Tryz.isAgg57; have z57 := Tryz.sizeOf57; have v57 := Tryz.zeroValue57
 go_enter Tryz.func31, Tryz.ntmps31
 go_wp2
 go_ret
 exact ⟨rfl, (Below.refl _ _).alloc (Nat.le_refl _) _⟩
set_option maxHeartbeats 3200000 in
theorem name_high (k : Int) (hk : 12 < k) (w : World) : Calls Tryz.prog 31 #[.int .i64 k] w fun e w' => e = .returned (.string ⟨#[]⟩) ∧ Below w.heap.size w w' := by
 have mixed : Tryz.prog.follows .mixedOrders = true := by kernel_rfl
 have t3 := Tryz.underlying3; have a3 := Tryz.isAgg3; have z3 := Tryz.sizeOf3; have v3 := Tryz.zeroValue3
 have t9 := Tryz.underlying9; have a9 := Tryz.isAgg9; have z9 := Tryz.sizeOf9; have v9 := Tryz.zeroValue9
 have t4 := Tryz.underlying4; have a4 := Tryz.isAgg4; have z4 := Tryz.sizeOf4; have v4 := Tryz.zeroValue4
 have t57 := Tryz.underlying57; have a57 := Tryz.isAgg57; have z57 := Tryz.sizeOf57; have v57 := Tryz.zeroValue57
 have hk1 : ¬ k < 1 := by omega
 go_enter Tryz.func31, Tryz.ntmps31
 go_wp2
 go_ret
 exact ⟨rfl, (Below.refl _ _).alloc (Nat.le_refl _) _⟩
def nameF (k : Int) : List UInt8 := match formOf k with
 | some f => f.1
 | none => []
theorem formOf_out {k : Int} (h : k < 1 ∨ 12 < k) : formOf k = none := by
 unfold formOf
 rw [List.find?_eq_none]
 intro f hf
 unfold formsL at hf
 simp only [List.mem_cons, List.not_mem_nil, or_false] at hf
 rcases hf with rfl | rfl | rfl | rfl | rfl | rfl | rfl | rfl | rfl | rfl | rfl | rfl <;> (intro e; have := eq_of_beq e; simp only at this; omega)
noncomputable def nameO_s : CSumm := fun args _ => match args with
 | [.int .i64 k] => .ite (decide (k < 1) || decide (12 < k)) (.ret (.str []) []) .fail
 | _ => .fail
theorem nameO_k : Known Tryz.prog 31 nameO_s := known_shelf Tryz.func31 noNumTry rfl (fun args H v ups h => by
 unfold nameO_s at h
 split at h
 · rename_i k
   rw [crun_ite, cond_eq_ite] at h
   split at h
   · rename_i hk
     simp only [Bool.or_eq_true, decide_eq_true_eq] at hk
     cases h
     refine ⟨rfl, fun ω θ Im w us hl hH => ?_⟩
     obtain ⟨u, rfl, hu⟩ := hl.single
     cases hu
     rcases hk with hk | hk
     · refine (name_low k hk w).mono ?_
       rintro e w' ⟨rfl, hb⟩
       exact ⟨_, rfl, hb, fun _ => .str rfl⟩
     · refine (name_high k hk w).mono ?_
       rintro e w' ⟨rfl, hb⟩
       exact ⟨_, rfl, hb, fun _ => .str rfl⟩
   · cases h
 · cases h)
theorem name_all : ((List.range 12).all fun k => eqR (.str (nameF ((k : Nat) + 1 : Int))) [] (crun (opn (tbl []) Tryz.f31 [.int .i64 ((k : Nat) + 1 : Int)] []))) = true := by kernel_rfl
noncomputable def nameI_s : CSumm := fun args H => match args, H with
 | [.int .i64 k], [] => .ite (decide (1 ≤ k) && decide (k ≤ 12)) (.ret (.str (nameF k)) []) .fail
 | _, _ => .fail
theorem nameI_k : Known Tryz.prog 31 nameI_s := (openKnown ok0 Tryz.func31 rfl).weak (by
 intro args H v ups h
 unfold nameI_s at h
 split at h
 · rename_i k
   rw [crun_ite, cond_eq_ite] at h
   split at h
   · rename_i hk
     simp only [Bool.and_eq_true, decide_eq_true_eq] at hk
     have := List.all_eq_true.1 name_all (k - 1).toNat (List.mem_range.2 (by omega))
     rw [show (((k - 1).toNat : Nat) : Int) + 1 = k by omega] at this
     exact (eqR_eq this).trans h
   · cases h
 · cases h)
def outK : List SV → Bool
 | [.int _ k] => decide (k < 1) || decide (12 < k)
 | _ => true
noncomputable def name_s : CSumm := fun args H => match args, H with
 | [.int .i64 k], [] => .ret (.str (nameF k)) []
 | _, _ => .fail
theorem name_k : Known Tryz.prog 31 name_s := (known_pick nameO_k nameI_k fun args _ => outK args).weak (by
 intro args H v ups h
 unfold name_s at h
 split at h
 · rename_i k
   rw [← h]
   show crun (bif (decide (k < 1) || decide (12 < k)) then nameO_s [.int .i64 k] [] else nameI_s [.int .i64 k] []) = _
   by_cases hk : k < 1 ∨ 12 < k
   · have e : (decide (k < 1) || decide (12 < k)) = true := by simpa using hk
     rw [e, cond_true]
     unfold nameO_s nameF
     simp only [e, formOf_out hk]
     rfl
   · have e : (decide (k < 1) || decide (12 < k)) = false := by simp only [Bool.or_eq_false_iff, decide_eq_false_iff_not]; omega
     have e2 : (decide (1 ≤ k) && decide (k ≤ 12)) = true := by simp only [Bool.and_eq_true, decide_eq_true_eq]; omega
     rw [e, cond_false]
     unfold nameI_s
     simp only [e2]
     rfl
 · cases h)
end Go.Proofs.YtpelignoebgkbaaGreatDoor
/- The reference's Text: the trees, kind by kind. -/
namespace Go.Proofs.YtpelignoebgkbaaGreatDoor
open Go.Am
set_option maxRecDepth 100000
noncomputable abbrev κx : Nat → Option CSumm := tbl [(7, line_s), (18, shape_s), (31, name_s), (32, write_s)]
theorem κxOk : KOk Tryz.prog κx := tbl_cons rline_k (tbl_cons shape_k (tbl_cons name_k (tbl_cons write_k ok0)))
noncomputable def endR (x : Cmd) (s : List UInt8) : CTree := bif decide (s.length ≤ 1000000) then
  bif (bif !(lineF s).2.1 then true else !(cmdEq (lineF s).1 x)) then txB else .ret (.tup [.str s, .int .i64 0]) []
 else .fail
noncomputable def rwrT (x : Cmd) : List UInt8 → List Nat → CTree
 | s, [] => endR x s
 | s, q :: qs => adC s [32] fun s1 => bif dec (x.cs = (asCmd x.cs).cs ∧ WOk x) then adC s1 (rwF x q) fun s2 => rwrT x s2 qs else .fail
noncomputable def rkTx (x : Cmd) : CTree := opn κx Tryz.f11 [.agg x.cs] []
noncomputable def rkT (k : Int) (a b c : Int) (up : Bool) (m i d : Int) : CTree := rkTx ⟨k, a, b, c, up, m, i, d⟩
theorem rx1 (a b c : Int) (up : Bool) (m i d : Int) : rkT 1 a b c up m i d = rwrT ⟨1, a, b, c, up, m, i, d⟩ [114, 117, 110] [0] := by kernel_rfl
theorem rx2 (a b c : Int) (up : Bool) (m i d : Int) : rkT 2 a b c up m i d = rwrT ⟨2, a, b, c, up, m, i, d⟩ [108, 105, 110, 107] [0, 4] := by kernel_rfl
theorem rx3 (a b c : Int) (up : Bool) (m i d : Int) : rkT 3 a b c up m i d = rwrT ⟨3, a, b, c, up, m, i, d⟩ [110, 111, 100, 101] [0, 4] := by kernel_rfl
theorem rx4 (a b c : Int) (up : Bool) (m i d : Int) : rkT 4 a b c up m i d = rwrT ⟨4, a, b, c, up, m, i, d⟩ [112, 111, 114, 116] [0, 1, 4] := by kernel_rfl
theorem rx5 (a b c : Int) (up : Bool) (m i d : Int) : rkT 5 a b c up m i d = rwrT ⟨5, a, b, c, up, m, i, d⟩ [97, 116, 116, 97, 99, 104] [0, 2] := by kernel_rfl
theorem rx6 (a b c : Int) (up : Bool) (m i d : Int) : rkT 6 a b c up m i d = rwrT ⟨6, a, b, c, up, m, i, d⟩ [114, 101, 115, 116, 97, 114, 116] [0] := by kernel_rfl
theorem rx7 (a b c : Int) (up : Bool) (m i d : Int) : rkT 7 a b c up m i d = rwrT ⟨7, a, b, c, up, m, i, d⟩ [116, 104, 97, 119] [0, 1, 5] := by kernel_rfl
theorem rx8 (a b c : Int) (up : Bool) (m i d : Int) : rkT 8 a b c up m i d = rwrT ⟨8, a, b, c, up, m, i, d⟩ [97, 110, 110, 111, 117, 110, 99, 101] [] := by kernel_rfl
theorem rx9 (a b c : Int) (up : Bool) (m i d : Int) : rkT 9 a b c up m i d = rwrT ⟨9, a, b, c, up, m, i, d⟩ [100, 97, 116, 97] [0, 5, 7] := by kernel_rfl
theorem rx10 (a b c : Int) (up : Bool) (m i d : Int) : rkT 10 a b c up m i d = rwrT ⟨10, a, b, c, up, m, i, d⟩ [97, 114, 112] [0, 6, 7] := by kernel_rfl
theorem rx11 (a b c : Int) (up : Bool) (m i d : Int) : rkT 11 a b c up m i d = rwrT ⟨11, a, b, c, up, m, i, d⟩ [105, 112] [0, 6, 3, 7] := by kernel_rfl
theorem rx12 (a b c : Int) (up : Bool) (m i d : Int) : rkT 12 a b c up m i d = rwrT ⟨12, a, b, c, up, m, i, d⟩ [116, 114, 97, 99, 101] [0, 5, 7] := by kernel_rfl
theorem rx0 (a b c : Int) (up : Bool) (m i d : Int) : rkT (.ofNat 0) a b c up m i d = endR ⟨.ofNat 0, a, b, c, up, m, i, d⟩ [] := by kernel_rfl
theorem rxN (n : Nat) (a b c : Int) (up : Bool) (m i d : Int) : rkT (.negSucc n) a b c up m i d = endR ⟨.negSucc n, a, b, c, up, m, i, d⟩ [] := by kernel_rfl
theorem rxG (n : Nat) (a b c : Int) (up : Bool) (m i d : Int) : rkT (.ofNat (n + 13)) a b c up m i d = endR ⟨.ofNat (n + 13), a, b, c, up, m, i, d⟩ [] := by kernel_rfl
end Go.Proofs.YtpelignoebgkbaaGreatDoor
/- Single words: what is read is what is written. -/
namespace Go.Proofs.YtpelignoebgkbaaGreatDoor
open Go.Am
set_option maxRecDepth 100000
/- Scripts: single words: what is read is what is written. -/
def fld : Nat → Nat
 | 0 => 0
 | 1 => 1
 | 2 => 1
 | 3 => 1
 | 4 => 2
 | 5 => 3
 | 6 => 4
 | _ => 5
def fOf (x : Cmd) : Nat → Int × Bool
 | 0 => (x.a, true)
 | 1 => (x.b, true)
 | 2 => (0, x.up)
 | 3 => (x.m, true)
 | 4 => (x.i, true)
 | 5 => (x.d, true)
 | _ => (0, true)
theorem rdW_k (q : Nat) (w : List UInt8) (x : Cmd) : (rdW q w x).2.k = x.k := by
 unfold rdW
 split <;> (repeat' split) <;> rfl
theorem rdW_c (q : Nat) (w : List UInt8) (x : Cmd) : (rdW q w x).2.c = x.c := by
 unfold rdW
 split <;> (repeat' split) <;> rfl
theorem rdW_fld (q : Nat) (w : List UInt8) (x : Cmd) (g : Nat) (h : g ≠ fld q) : fOf (rdW q w x).2 g = fOf x g := by
 match q with
 | 0 => match g with | 0 => exact absurd rfl h | 1 => rfl | 2 => rfl | 3 => rfl | 4 => rfl | 5 => rfl | g + 6 => rfl
 | 1 => match g with | 1 => exact absurd rfl h | 0 => rfl | 2 => rfl | 3 => rfl | 4 => rfl | 5 => rfl | g + 6 => rfl
 | 2 => unfold rdW; simp only []; split <;> (match g with | 1 => exact absurd rfl h | 0 => rfl | 2 => rfl | 3 => rfl | 4 => rfl | 5 => rfl | g + 6 => rfl)
 | 3 => match g with | 1 => exact absurd rfl h | 0 => rfl | 2 => rfl | 3 => rfl | 4 => rfl | 5 => rfl | g + 6 => rfl
 | 4 => unfold rdW; simp only []; (repeat' split) <;> (match g with | 2 => exact absurd rfl h | 0 => rfl | 1 => rfl | 3 => rfl | 4 => rfl | 5 => rfl | g + 6 => rfl)
 | 5 => unfold rdW; simp only []; (repeat' split) <;> (match g with | 3 => exact absurd rfl h | 0 => rfl | 1 => rfl | 2 => rfl | 4 => rfl | 5 => rfl | g + 6 => rfl)
 | 6 => unfold rdW; simp only []; (repeat' split) <;> (match g with | 4 => exact absurd rfl h | 0 => rfl | 1 => rfl | 2 => rfl | 3 => rfl | 5 => rfl | g + 6 => rfl)
 | q + 7 => match g with | 0 => rfl | 1 => rfl | 2 => rfl | 3 => rfl | 4 => rfl | 5 => exact absurd rfl h | g + 6 => rfl
def Clean (w : List UInt8) : Prop := w ≠ [] ∧ ∀ c ∈ w, c ≠ 32 ∧ c ≠ 10
end Go.Proofs.YtpelignoebgkbaaGreatDoor
/- A line that is read: its form. -/
namespace Go.Proofs.YtpelignoebgkbaaGreatDoor
open Go.Am
set_option maxRecDepth 100000
/- Scripts: a line that is read, and the line that is written of it. -/
def apart : List Nat → Prop
 | [] => True
 | q :: qs => (∀ r ∈ qs, fld r ≠ fld q) ∧ apart qs
theorem brF_fld (n : Int) : ∀ (qs : List Nat) (x : Cmd) (ws : List (List UInt8 × Int)), (brF n qs x ws).1 = 0 → ∀ g, (∀ q ∈ qs, g ≠ fld q) → fOf (brF n qs x ws).2.2 g = fOf x g
 | [], x, [], _, g, _ => rfl
 | [], x, w :: ws, h, _, _ => by cases h
 | q :: qs, x, [], h, _, _ => by cases h
 | q :: qs, x, w :: ws, h, g, hg => by
  unfold brF at h ⊢
  split at h
  · rename_i he
    rw [if_pos he]
    exact (brF_fld n qs _ ws h g (fun r hr => hg r (by simp [hr]))).trans (rdW_fld q w.1 x g (hg q (by simp)))
  · rename_i he
    exact absurd h he
theorem brF_k (n : Int) : ∀ (qs : List Nat) (x : Cmd) (ws : List (List UInt8 × Int)), (brF n qs x ws).1 = 0 → (brF n qs x ws).2.2.k = x.k ∧ (brF n qs x ws).2.2.c = x.c
 | [], x, [], _ => ⟨rfl, rfl⟩
 | [], x, w :: ws, h => by cases h
 | q :: qs, x, [], h => by cases h
 | q :: qs, x, w :: ws, h => by
  unfold brF at h ⊢
  split at h
  · rename_i he
    rw [if_pos he]
    obtain ⟨h1, h2⟩ := brF_k n qs _ ws h
    exact ⟨h1.trans (rdW_k q w.1 x), h2.trans (rdW_c q w.1 x)⟩
  · rename_i he
    exact absurd h he
theorem frmF_form (w : List UInt8) : ∀ (fs : List (List UInt8 × Int × List Nat)), (∃ f ∈ fs, f.1 = w ∧ ∀ n p ws, frmF n (w, p) ws fs = brF n f.2.2 (cmd0' f.2.1) ws) ∨ ∀ n p ws, frmF n (w, p) ws fs = (8, 0, cmd0' 0)
 | [] => .inr fun _ _ _ => rfl
 | f :: r => by
  by_cases hf : f.1 = w
  · exact .inl ⟨f, by simp, hf, fun n p ws => by rw [frmF, if_pos hf]⟩
  · rcases frmF_form w r with ⟨g, hg, h1, h2⟩ | h
    · exact .inl ⟨g, by simp [hg], h1, fun n p ws => by rw [frmF, if_neg hf]; exact h2 n p ws⟩
    · exact .inr fun n p ws => by rw [frmF, if_neg hf]; exact h n p ws
theorem formsL_ok : ∀ f ∈ formsL, formOf f.2.1 = some f ∧ apart f.2.2 ∧ Clean f.1 ∧ f.1.getD 0 0 ≠ 35 := by
 unfold formsL
 simp only [List.mem_cons, List.not_mem_nil, or_false]
 rintro f (rfl | rfl | rfl | rfl | rfl | rfl | rfl | rfl | rfl | rfl | rfl | rfl) <;> exact ⟨rfl, by simp [apart, fld], ⟨by decide, by decide⟩, by decide⟩
end Go.Proofs.YtpelignoebgkbaaGreatDoor
