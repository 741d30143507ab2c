/- Scripts: Line. -/
import Derived.Test.YtpelignoebgkbaaGreatDoorPart7
import Derived.Test.YtpelignoebgkbaaGreatDoorMachine9
import Derived.Test.YtpelignoebgkbaaGreatDoorPart2
set_option linter.unusedVariables false
set_option linter.unusedSimpArgs false
namespace Go.Proofs.YtpelignoebgkbaaGreatDoor
open Go.Am
set_option maxRecDepth 100000
noncomputable abbrev πL : Nat → Option CSumm := tbl [(15, fail_s), (16, read_s)]
theorem πLok : XOk Tryz.prog πL := xtbl_cons fail_k (xtbl_cons read_k xtbl_nil)
noncomputable def line_b : CSumm := deferX Tryz.prog κR πL [2, 3, 4] 300 Tryz.f6 Tryz.f13 lnA lnB lcB 6 13 6 3 caps3
theorem line_k0 : Known Tryz.prog 6 line_b := ⟨⟨Tryz.f6, Tryz.func6, noNum_at noNumTry Tryz.func6, rfl⟩, deferX_valid κRok πLok mixTry Tryz.func6 dfr15 clo31⟩
def lnO (x : Cmd) (is : Bool) (e a : Int) : CTree := .ret (.tup [.agg x.cs, .bool is, .agg [.int .i64 e, .int .i64 a]]) []
theorem line_t (s : List UInt8) : line_b [.str s] [] =
 bif decide (Lib.indexByte s 10 ≥ 0) then lnO (cmd0' 0) false 19 (Lib.indexByte s 10) else
  bif s == [] then lnO (cmd0' 0) false 0 0 else bif inB 0 s.length then bif ((s.getD (0 : Int).toNat 0).toNat : Int) == 35 then lnO (cmd0' 0) false 0 0 else
   bif decide (s.length ≤ 1000000) then bif (readF s).1 == 0 then lnO (readF s).2.2 true 0 0 else lnO (cmd0' 0) false (readF s).1 (readF s).2.1 else .fail
  else .fail := by kernel_rfl
def lineF (s : List UInt8) : Cmd × Bool × Int × Int :=
 if 0 ≤ Lib.indexByte s 10 then (cmd0' 0, false, 19, Lib.indexByte s 10) else if s = [] ∨ s.getD 0 0 = 35 then (cmd0' 0, false, 0, 0)
 else if (readF s).1 = 0 then ((readF s).2.2, true, 0, 0) else (cmd0' 0, false, (readF s).1, (readF s).2.1)
noncomputable def line_s : CSumm := fun args H => match args, H with
 | [.str s], [] => .ite (decide (s.length ≤ 1000000)) (lnO (lineF s).1 (lineF s).2.1 (lineF s).2.2.1 (lineF s).2.2.2) .fail
 | _, _ => .fail
theorem line_k : Known Tryz.prog 6 line_s := line_k0.weak (by
 intro args H v ups h
 unfold line_s at h
 split at h
 · rename_i s
   rw [crun_ite, cond_eq_ite] at h
   split at h
   · rename_i hc
     have hs := of_decide_eq_true hc
     refine (congrArg crun (line_t s)).trans ?_
     rw [← h]
     unfold lineF
     by_cases h1 : 0 ≤ Lib.indexByte s 10
     · rw [if_pos h1, decide_eq_true (show Lib.indexByte s 10 ≥ 0 from h1)]; rfl
     · rw [if_neg h1, decide_eq_false (show ¬ Lib.indexByte s 10 ≥ 0 from h1), cond_false]
       by_cases h2 : s = []
       · rw [if_pos (.inl h2), show (s == []) = true by rw [h2]; rfl]; rfl
       · have hpos : 0 < s.length := List.length_pos_iff.2 h2
         rw [show (s == []) = false by simpa using h2, cond_false, inB_ok (by omega) (by omega), cond_true]
         by_cases h3 : s.getD 0 0 = 35
         · rw [if_pos (.inr h3), show (((s.getD (0 : Int).toNat 0).toNat : Int) == 35) = true by
             show (((s.getD 0 0).toNat : Int) == 35) = true
             rw [h3]; rfl]; rfl
         · rw [if_neg (by rintro (h | h); exact h2 h; exact h3 h), show (((s.getD (0 : Int).toNat 0).toNat : Int) == 35) = false by
             show (((s.getD 0 0).toNat : Int) == 35) = false
             rw [beq_eq_false_iff_ne]
             intro e
             exact h3 (UInt8.toNat_inj.1 (by show (s.getD 0 0).toNat = 35; omega)), cond_false, decide_eq_true hs, cond_true]
           by_cases h4 : (readF s).1 = 0
           · rw [if_pos h4, show ((readF s).1 == 0) = true by simpa using h4]; rfl
           · rw [if_neg h4, show ((readF s).1 == 0) = false by simpa using h4]; rfl
   · cases h
 · cases h)
end Go.Proofs.YtpelignoebgkbaaGreatDoor
/- Scripts: Parse: its loop. -/
namespace Go.Proofs.YtpelignoebgkbaaGreatDoor
open Go.Am
set_option maxRecDepth 100000
noncomputable abbrev κP : Nat → Option CSumm := tbl [(6, line_s), (20, cnt_s), (21, split_s)]
theorem κPok : KOk Tryz.prog κP := tbl_cons line_k (tbl_cons cnt_k (tbl_cons split_k ok0))
def pF : List SV → Int → List SV × Int × Int
 | [], _ => ([], 0, 0)
 | l :: ls, i => bif (lineF (asS l)).2.2.1 != 0 then ([], (lineF (asS l)).2.2.1, i) else ((bif (lineF (asS l)).2.1 then .agg (lineF (asS l)).1.cs :: (pF ls (i + 1)).1 else (pF ls (i + 1)).1), (pF ls (i + 1)).2)
def plOk (ls : List SV) (n i : Int) (m : Nat) (es : List SV) : Prop := n = ls.length ∧ 0 ≤ i ∧ i ≤ n ∧ m = es.length ∧ (m : Int) ≤ i ∧ n ≤ 2000000 ∧ ∀ l ∈ ls, (asS l).length ≤ 1000000
noncomputable def body8 : Code := Tryz.f8.body.getD .skip
noncomputable def c8 : Code := (loopAt 5 body8).getD .skip
def plX (es : List SV) : CTree := .ret (.tup [.int .i64 2, .junk, .ptr 0 0, .qs 2 8 0 es.length]) [(1, none), (2, some (.seq 27 es))]
def plR (e a : Int) : CTree := .ret (.tup [.int .i64 1, .nils, .ptr 0 0, .junk]) [(0, some (.cells 32 [.int .i64 e, .int .i64 a])), (1, none)]
noncomputable def pl_s : CSumm := fun args H => match args, H with
 | [.psl 9 ls, .int .i64 n, .int .i64 i, .ptr 0 0, .qs 1 8 0 m], [(0, .cells 32 [.int .i64 _, .int .i64 _]), (1, .seq 27 es)] => .ite (dec (plOk ls n i m es)) (.ite ((pF (ls.drop i.toNat) i).2.1 == 0) (plX (es ++ (pF (ls.drop i.toNat) i).1)) (plR (pF (ls.drop i.toNat) i).2.1 (pF (ls.drop i.toNat) i).2.2)) .fail
 | _, _ => .fail
def plM : List SV → HpL → Nat
 | _ :: .int _ n :: .int _ i :: _, _ => (n - i).toNat
 | _, _ => 0
noncomputable def e8 : LEnt := { ins := [15, 16, 17, 3, 4], outs := [2, 3, 4], keep := [], size := 43, code := c8, s := pl_s }
def plR' (e a : Int) : CTree := .ret (.tup [.int .i64 1, .nils, .ptr 0 0, .junk]) [(1, none), (0, some (.cells 32 [.int .i64 e, .int .i64 a]))]
noncomputable def plN' (N : Nat) (ls es : List SV) (n i : Int) (m : Nat) : CTree := bif Nat.blt (n - i).toNat N then bif dec (plOk ls n i m es) then bif (pF (ls.drop i.toNat) i).2.1 == 0 then plX (es ++ (pF (ls.drop i.toNat) i).1) else plR' (pF (ls.drop i.toNat) i).2.1 (pF (ls.drop i.toNat) i).2.2 else .fail else .fail
noncomputable def plN (N : Nat) (ls es : List SV) (n i : Int) (m : Nat) : CTree := bif Nat.blt (n - i).toNat N then bif dec (plOk ls n i m es) then bif (pF (ls.drop i.toNat) i).2.1 == 0 then plX (es ++ (pF (ls.drop i.toNat) i).1) else plR (pF (ls.drop i.toNat) i).2.1 (pF (ls.drop i.toNat) i).2.2 else .fail else .fail
theorem pl_t (N : Nat) (ls es : List SV) (n i e0 a0 : Int) (m : Nat) : loopOnce Tryz.prog κP (fun _ => false) (ltab []) true 300 e8 { e8 with s := boundT plM pl_s N } c8 [.psl 9 ls, .int .i64 n, .int .i64 i, .ptr 0 0, .qs 1 8 0 m] [(0, .cells 32 [.int .i64 e0, .int .i64 a0]), (1, .seq 27 es)] =
 bif decide (i < n) then bif inB i ls.length then bif decide ((asS (ls.getD i.toNat .junk)).length ≤ 1000000) then
  bif (lineF (asS (ls.getD i.toNat .junk))).2.2.1 != 0 then .ret (.tup [.int .i64 1, .nils, .ptr 0 0, .qs 1 8 0 m]) [(0, some (.cells 32 [.int .i64 (lineF (asS (ls.getD i.toNat .junk))).2.2.1, .int .i64 i]))] else
  bif (lineF (asS (ls.getD i.toNat .junk))).2.1 then
   bif decide (m = es.length) then bif decide (es.length + 1 ≤ 9223372036854775807) && decide ((es.length + 1) * Tryz.prog.types[27].bytes ≤ 140737488355328) then
    plN N ls (es ++ [.agg (lineF (asS (ls.getD i.toNat .junk))).1.cs]) n (w64 (i + 1)) (es.length + 1)
   else .fail else .fail
  else plN' N ls es n (w64 (i + 1)) m
 else .fail else .fail
 else .ret (.tup [.int .i64 2, .junk, .ptr 0 0, .qs 1 8 0 m]) [] := by kernel_rfl
end Go.Proofs.YtpelignoebgkbaaGreatDoor
/- Scripts: Parse, known. -/
namespace Go.Proofs.YtpelignoebgkbaaGreatDoor
open Go.Am
set_option maxRecDepth 100000
theorem b38 : decide (Tryz.prog.types[27].bytes ≤ 1000) = true := by kernel_rfl
theorem pl_exit {es : List SV} {e0 a0 : Int} : ChainL Tryz.prog [(0, .cells 32 [.int .i64 e0, .int .i64 a0]), (1, .seq 27 es)] (.tup [.int .i64 2, .junk, .ptr 0 0, .qs 1 8 0 es.length]) [] (.tup [.int .i64 2, .junk, .ptr 0 0, .qs 2 8 0 es.length]) [(1, none), (2, some (.seq 27 es))] := by
 refine .ren ⟨1, 2, by simp, by simp [namesS, namesL], fun x c hx => ?_, rfl, fun x => ?_⟩
 · simp only [updF] at hx
   have := HpL_get_some _ _ _ hx
   simp only [List.mem_cons, Prod.mk.injEq, List.not_mem_nil, or_false] at this
   rcases this with ⟨_, rfl⟩ | ⟨_, rfl⟩ <;> simp [namesC, namesL, namesS]
 · match x with
   | 0 => rfl | 1 => rfl | 2 => rfl
   | x + 3 => simp only [updF, HpL.get, show ¬ (x + 3 = 2) by omega, show ¬ (x + 3 = 1) by omega, if_false, show Nat.beq 0 (x + 3) = false from nb_f (by omega), show Nat.beq 1 (x + 3) = false from nb_f (by omega), cond_false, Option.map_none]
theorem pl_ret {es : List SV} {e0 a0 e a : Int} {m : Nat} : ChainL Tryz.prog [(0, .cells 32 [.int .i64 e0, .int .i64 a0]), (1, .seq 27 es)] (.tup [.int .i64 1, .nils, .ptr 0 0, .qs 1 8 0 m]) [(0, some (.cells 32 [.int .i64 e, .int .i64 a]))] (.tup [.int .i64 1, .nils, .ptr 0 0, .junk]) [(0, some (.cells 32 [.int .i64 e, .int .i64 a])), (1, none)] := by
 refine .told ⟨1, [.nils, .ptr 0 0, .qs 1 8 0 m], [.nils, .ptr 0 0, .junk], rfl, rfl, .cons .rfl' (.cons .rfl' (.cons (fun _ _ _ _ _ _ => .junk) .nil)), fun x c' hx => ?_⟩
 match x with
 | 0 => exact ⟨_, hx, .rfl'⟩
 | 1 => simp [updF] at hx
 | x + 2 => simp only [updF, HpL.get, show ¬ (x + 2 = 1) by omega, show ¬ (x + 2 = 0) by omega, if_false, show Nat.beq 0 (x + 2) = false from nb_f (by omega), show Nat.beq 1 (x + 2) = false from nb_f (by omega), cond_false] at hx; cases hx
theorem pl_flip {H : HpL} {e a : Int} {v' : SV} {ups' : List (Nat × Option Chunk)} (h : crun (plR e a) = some (v', ups')) : ∃ ups, crun (plR' e a) = some (v', ups) ∧ ∀ x, updF ups' H.get x = updF ups H.get x := by
 cases h
 refine ⟨_, rfl, fun x => ?_⟩
 match x with
 | 0 => rfl | 1 => rfl
 | x + 2 => rfl
theorem pl_valid : ValidL Tryz.prog e8 := loop_valid5 (T := ltab []) (sp := true) (fuel := 300) (c := c8) (μ := plM) mixTry ltab_nil (show fillC (ltab []) c8 = c8 by kernel_rfl) (by
 intro N args H v' ups' hbt hr
 unfold e8 pl_s at hr
 simp only [] at hr
 split at hr
 · rename_i ls n i m e0 a0 es
   rw [crun_ite] at hr
   cases hc : dec (plOk ls n i m es) with
   | false => rw [hc] at hr; cases hr
   | true =>
    rw [hc, cond_true] at hr
    obtain ⟨rfl, i0, i1, rfl, mi, nl, hls⟩ := dec_iff.1 hc
    have hN : Nat.blt ((ls.length : Int) - i).toNat (N + 1) = true := hbt
    rw [Nat.blt_eq] at hN
    refine ⟨κP, fun _ => false, κPok, ?_⟩
    have ht := pl_t N ls es ls.length i e0 a0 es.length
    obtain ⟨k, rfl⟩ := Int.eq_ofNat_of_zero_le i0
    have hk : ((k : Nat) : Int).toNat = k := rfl
    rw [hk] at hr ht
    by_cases hi : (k : Int) < ls.length
    · have hkl : k < ls.length := by omega
      have hlk : (asS (ls.getD k .junk)).length ≤ 1000000 := hls _ (by simp [List.getD_eq_getElem?_getD, hkl])
      rw [decide_eq_true hi, cond_true, inB_ok (by omega) (by omega), cond_true, decide_eq_true hlk, cond_true] at ht
      rw [getD_cons' hkl, pF] at hr
      have e1 : w64 ((k : Int) + 1) = ((k + 1 : Nat) : Int) := (w64_id (by omega) (by omega)).trans (by omega)
      generalize hL : lineF (asS (ls.getD k .junk)) = L at hr ht
      cases he : L.2.2.1 != 0 with
      | true =>
       rw [he, cond_true] at ht hr
       have : (L.2.2.1 == 0) = false := by simpa [bne] using he
       rw [crun_ite, this, cond_false] at hr
       refine ⟨_, _, congrArg crun ht, ?_⟩
       simp only [plR, crun] at hr
       cases hr
       exact pl_ret
      | false =>
       rw [he, cond_false] at ht hr
       have hb := of_decide_eq_true b38
       have hb2 : (es.length + 1) * Tryz.prog.types[27].bytes ≤ (es.length + 1) * 1000 := Nat.mul_le_mul_left _ hb
       cases hs : L.2.1 with
       | true =>
        rw [hs, cond_true] at ht hr
        rw [decide_eq_true rfl, cond_true, decide_eq_true (show es.length + 1 ≤ 9223372036854775807 by omega), decide_eq_true (show (es.length + 1) * Tryz.prog.types[27].bytes ≤ 140737488355328 by omega), Bool.and_self, cond_true, e1] at ht
        unfold plN at ht
        rw [show Nat.blt ((ls.length : Int) - ((k + 1 : Nat) : Int)).toNat N = true by rw [Nat.blt_eq]; omega, cond_true, dec_iff.2 ⟨rfl, by omega, by omega, by simp, by omega, nl, hls⟩, cond_true, show ((k + 1 : Nat) : Int).toNat = k + 1 from rfl] at ht
        refine ⟨v', ups', (congrArg crun ht).trans ?_, .same fun _ => rfl⟩
        rw [crun_cond]
        rw [crun_ite] at hr
        simp only [List.append_assoc, List.singleton_append]
        exact hr
       | false =>
        rw [hs, cond_false] at ht hr
        rw [e1] at ht
        unfold plN' at ht
        rw [show Nat.blt ((ls.length : Int) - ((k + 1 : Nat) : Int)).toNat N = true by rw [Nat.blt_eq]; omega, cond_true, dec_iff.2 ⟨rfl, by omega, by omega, rfl, by omega, nl, hls⟩, cond_true, show ((k + 1 : Nat) : Int).toNat = k + 1 from rfl] at ht
        rw [crun_ite] at hr
        have hcast : ((k : Nat) : Int) + 1 = ((k + 1 : Nat) : Int) := by omega
        rw [hcast] at hr
        cases hq : ((pF (ls.drop (k + 1)) ((k + 1 : Nat) : Int)).2.1 == 0) with
        | true =>
         rw [hq, cond_true] at ht hr
         exact ⟨v', ups', (congrArg crun ht).trans hr, .same fun _ => rfl⟩
        | false =>
         rw [hq, cond_false] at ht hr
         obtain ⟨ups, g1, g2⟩ := pl_flip (H := [(0, .cells 32 [.int .i64 e0, .int .i64 a0]), (1, .seq 27 es)]) hr
         exact ⟨v', ups, (congrArg crun ht).trans g1, .same g2⟩
    · rw [decide_eq_false hi, cond_false] at ht
      have : ls.drop k = [] := List.drop_eq_nil_of_le (by omega)
      rw [this] at hr
      refine ⟨_, _, congrArg crun ht, ?_⟩
      simp only [pF, List.append_nil, plX, crun, beq_self_eq_true, if_true] at hr
      cases hr
      exact pl_exit
 · cases hr)
abbrev fs8 : List (Option (Nat × Nat)) := [none, none, none, none, some (27, 8)]
noncomputable def e8j : LEnt := { e8 with s := inN fs8 pl_s }
theorem pl_in : ValidL Tryz.prog e8j := loop_inN pl_valid (fs := fs8)
noncomputable abbrev T8 : LTab := ltab [("p", e8j)]
noncomputable abbrev m8 : Code := markC [(5, "p")] body8
noncomputable def parse_b : CSumm := bodyCL Tryz.prog κP (fun _ => false) T8 true 300 Tryz.f8 m8
theorem parse_k0 : Known Tryz.prog 8 parse_b := ⟨⟨Tryz.f8, Tryz.func8, noNum_at noNumTry Tryz.func8, rfl⟩, bodyL_valid κPok mixTry (ltab_cons pl_in ltab_nil) Tryz.func8 (show Tryz.f8.body = some (fillC T8 m8) by kernel_rfl)⟩
def paQ (r : List SV × Int × Int) : CTree := bif r.2.1 == 0 then .ret (.tup [.qs 0 8 0 r.1.length, .agg [.int .i64 0, .int .i64 0]]) [(0, some (.seq 27 r.1))] else .ret (.tup [.nils, .agg [.int .i64 r.2.1, .int .i64 r.2.2]]) []
theorem parse_t (s : List UInt8) : parse_b [.str s] [] = bif decide ((Lib.countByte s 10 : Int) ≥ 1000) then .ret (.tup [.nils, .agg [.int .i64 5, .int .i64 1000]]) [] else
 bif decide (s.length ≤ 1000000) then bif dec (plOk ((spl 10 s).map SV.str) ((spl 10 s).map SV.str).length 0 0 []) then paQ (pF (((spl 10 s).map SV.str).drop (0 : Int).toNat) 0) else .fail else .fail := by kernel_rfl
end Go.Proofs.YtpelignoebgkbaaGreatDoor
/- Scripts: Parse, plainly. -/
namespace Go.Proofs.YtpelignoebgkbaaGreatDoor
open Go.Am
set_option maxRecDepth 100000
def csv (x : Cmd) : SV := .agg x.cs
def pL : List (List UInt8) → Int → List Cmd × Int × Int
 | [], _ => ([], 0, 0)
 | l :: ls, i => if (lineF l).2.2.1 = 0 then ((if (lineF l).2.1 then (lineF l).1 :: (pL ls (i + 1)).1 else (pL ls (i + 1)).1), (pL ls (i + 1)).2) else ([], (lineF l).2.2.1, i)
theorem pF_eq : ∀ (ls : List (List UInt8)) (i : Int), pF (ls.map SV.str) i = ((pL ls i).1.map csv, (pL ls i).2)
 | [], _ => rfl
 | l :: ls, i => by
  simp only [List.map_cons, pF, pL]
  have e : asS (SV.str l) = l := rfl
  rw [e, pF_eq ls]
  by_cases h : (lineF l).2.2.1 = 0
  · rw [show ((lineF l).2.2.1 != 0) = false by simpa using h, cond_false, if_pos h]
    cases (lineF l).2.1 <;> rfl
  · rw [show ((lineF l).2.2.1 != 0) = true by simpa using h, cond_true, if_neg h]
    rfl
def parseF (s : List UInt8) : List Cmd × Int × Int :=
 if 1000 ≤ Lib.countByte s 10 then ([], 5, 1000) else if (pL (spl 10 s) 0).2.1 = 0 then ((pL (spl 10 s) 0).1, 0, 0) else ([], (pL (spl 10 s) 0).2)
noncomputable def parse_s : CSumm := fun args H => match args, H with
 | [.str s], [] => .ite (decide (s.length ≤ 1000000)) (.ret (.tup [.psl 27 ((parseF s).1.map csv), .agg [.int .i64 (parseF s).2.1, .int .i64 (parseF s).2.2]]) []) .fail
 | _, _ => .fail
theorem parse_k : Known Tryz.prog 8 parse_s := known_told parse_k0 (by
 intro args H v' ups' h
 unfold parse_s at h
 split at h
 · rename_i s
   rw [crun_ite, cond_eq_ite] at h
   split at h
   · rename_i hc
     have hs := of_decide_eq_true hc
     have ht := parse_t s
     have hd : ((spl 10 s).map SV.str).drop (0 : Int).toNat = (spl 10 s).map SV.str := rfl
     rw [hd] at ht
     unfold parseF at h
     by_cases h1 : 1000 ≤ Lib.countByte s 10
     · rw [decide_eq_true (show (Lib.countByte s 10 : Int) ≥ 1000 by omega), cond_true] at ht
       rw [if_pos h1] at h
       cases h
       refine ⟨_, _, congrArg crun ht, .inr ⟨.tup (.cons .nils (.cons .rfl' .nil)), fun x c' hx => ⟨c', hx, .rfl'⟩⟩⟩
     · have hl := splR_len 10 s []
       have he := splR_each 10 s []
       rw [decide_eq_false (show ¬ (Lib.countByte s 10 : Int) ≥ 1000 by omega), cond_false, decide_eq_true hs, cond_true, dec_iff.2 ⟨rfl, Int.le_refl _, by omega, rfl, by simp, by unfold spl; simp; omega, fun l hl => by
        obtain ⟨w, hw, rfl⟩ := List.mem_map.1 hl
        have := he w hw
        show w.length ≤ 1000000
        simp at this; omega⟩, cond_true, pF_eq] at ht
       rw [if_neg h1] at h
       unfold paQ at ht
       by_cases h2 : (pL (spl 10 s) 0).2.1 = 0
       · rw [show ((pL (spl 10 s) 0).2.1 == 0) = true by simpa using h2, cond_true] at ht
         rw [if_pos h2] at h
         cases h
         refine ⟨_, _, congrArg crun ht, .inl ⟨0, 27, _, rfl, .tup (.cons (.qs rfl) (.cons .rfl' .nil)), fun x c' hx => ?_⟩⟩
         simp [updF, HpL.get] at hx
       · rw [show ((pL (spl 10 s) 0).2.1 == 0) = false by simpa using h2, cond_false] at ht
         rw [if_neg h2] at h
         cases h
         refine ⟨_, _, congrArg crun ht, .inr ⟨.tup (.cons .nils (.cons .rfl' .nil)), fun x c' hx => ⟨c', hx, .rfl'⟩⟩⟩
   · cases h
 · cases h)
/- Equal commands. -/
def cEq (x y : SV) : Bool := asI (cellAt x 0) == asI (cellAt y 0) && (asI (cellAt x (0 + 1)) == asI (cellAt y (0 + 1)) && (asI (cellAt x (0 + 1 + 1)) == asI (cellAt y (0 + 1 + 1)) && (asI (cellAt x (0 + 1 + 1 + 1)) == asI (cellAt y (0 + 1 + 1 + 1)) && (asB (cellAt x (0 + 1 + 1 + 1 + 1)) == asB (cellAt y (0 + 1 + 1 + 1 + 1)) &&
 (asI (cellAt x (0 + 1 + 1 + 1 + 1 + 1)) == asI (cellAt y (0 + 1 + 1 + 1 + 1 + 1)) && (asI (cellAt x (0 + 1 + 1 + 1 + 1 + 1 + 1)) == asI (cellAt y (0 + 1 + 1 + 1 + 1 + 1 + 1)) && asI (cellAt x (0 + 1 + 1 + 1 + 1 + 1 + 1 + 1)) == asI (cellAt y (0 + 1 + 1 + 1 + 1 + 1 + 1 + 1))))))))
def eqF : List SV → List SV → Bool
 | [], _ => true
 | _, [] => true
 | x :: xs, y :: ys => bif cEq x y then eqF xs ys else false
def smOk (xs ys : List SV) (i : Int) : Prop := xs.length = ys.length ∧ 0 ≤ i ∧ i ≤ xs.length ∧ xs.length ≤ 1000000000
noncomputable def body10 : Code := Tryz.f12.body.getD .skip
noncomputable def c10 : Code := (loopAt 4 body10).getD .skip
noncomputable def sm_s : CSumm := fun args H => match args, H with
 | [.psl 27 xs, .psl 27 ys, .int .i64 i], [] => .ite (dec (smOk xs ys i)) (.ite (eqF (xs.drop i.toNat) (ys.drop i.toNat)) (.ret (.tup [.int .i64 2, .junk]) []) (.ret (.tup [.int .i64 1, .bool false]) [])) .fail
 | _, _ => .fail
def smM : List SV → HpL → Nat
 | [.psl _ xs, _, .int _ i], _ => ((xs.length : Int) - i).toNat
 | _, _ => 0
noncomputable def e10 : LEnt := { ins := [0, 1, 5], outs := [4], keep := [], size := 26, code := c10, s := sm_s }
noncomputable def smN (N : Nat) (xs ys : List SV) (i : Int) : CTree := bif Nat.blt ((xs.length : Int) - i).toNat N then bif dec (smOk xs ys i) then bif eqF (xs.drop i.toNat) (ys.drop i.toNat) then .ret (.tup [.int .i64 2, .junk]) [] else .ret (.tup [.int .i64 1, .bool false]) [] else .fail else .fail
theorem sm_t (N : Nat) (xs ys : List SV) (i : Int) : loopOnce Tryz.prog κe (fun _ => false) (ltab []) true 300 e10 { e10 with s := boundT smM sm_s N } c10 [.psl 27 xs, .psl 27 ys, .int .i64 i] [] =
 bif decide (i < xs.length) then bif inB i xs.length then bif inB i ys.length then bif !(cEq (xs.getD i.toNat .junk) (ys.getD i.toNat .junk)) then .ret (.tup [.int .i64 1, .bool false]) [] else smN N xs ys (w64 (i + 1)) else .fail else .fail
 else .ret (.tup [.int .i64 2, .junk]) [] := by kernel_rfl
end Go.Proofs.YtpelignoebgkbaaGreatDoor
/- Scripts: two lists of commands are held against one another. -/
namespace Go.Proofs.YtpelignoebgkbaaGreatDoor
open Go.Am
set_option maxRecDepth 100000
theorem sm_valid : ValidL Tryz.prog e10 := loop_valid5 (T := ltab []) (sp := true) (fuel := 300) (c := c10) (μ := smM) mixTry ltab_nil (show fillC (ltab []) c10 = c10 by kernel_rfl) (by
 intro N args H v' ups' hbt hr
 unfold e10 sm_s at hr
 simp only [] at hr
 split at hr
 · rename_i xs ys i
   rw [crun_ite] at hr
   cases hc : dec (smOk xs ys i) with
   | false => rw [hc] at hr; cases hr
   | true =>
    rw [hc, cond_true] at hr
    obtain ⟨hl, i0, i1, nl⟩ := dec_iff.1 hc
    have hN : Nat.blt ((xs.length : Int) - i).toNat (N + 1) = true := hbt
    rw [Nat.blt_eq] at hN
    refine ⟨κe, fun _ => false, κeOk, ?_⟩
    have ht := sm_t N xs ys i
    obtain ⟨k, rfl⟩ := Int.eq_ofNat_of_zero_le i0
    have hk : ((k : Nat) : Int).toNat = k := rfl
    rw [hk] at hr ht
    refine ⟨v', ups', (congrArg crun ht).trans ?_, .same fun _ => rfl⟩
    by_cases hi : (k : Int) < xs.length
    · rw [decide_eq_true hi, cond_true, inB_ok (by omega) (by omega), cond_true, inB_ok (by omega) (by omega), cond_true]
      rw [getD_cons' (es := xs) (by omega), getD_cons' (es := ys) (by omega), eqF] at hr
      cases hq : cEq (xs.getD k .junk) (ys.getD k .junk) with
      | false => rw [hq] at hr; exact hr
      | true =>
       rw [hq, cond_true] at hr
       rw [Bool.not_true, cond_false, show w64 ((k : Int) + 1) = ((k + 1 : Nat) : Int) from (w64_id (by omega) (by omega)).trans (by omega)]
       unfold smN
       rw [show Nat.blt ((xs.length : Int) - ((k + 1 : Nat) : Int)).toNat N = true by rw [Nat.blt_eq]; omega, cond_true, dec_iff.2 ⟨hl, by omega, by omega, nl⟩, cond_true, show ((k + 1 : Nat) : Int).toNat = k + 1 from rfl, crun_cond]
       rw [crun_ite] at hr
       exact hr
    · rw [decide_eq_false hi, cond_false]
      have : xs.drop k = [] := List.drop_eq_nil_of_le (by omega)
      rw [this, eqF] at hr
      exact hr
 · cases hr)
noncomputable abbrev T10 : LTab := ltab [("m", e10)]
noncomputable abbrev m10 : Code := markC [(4, "m")] body10
noncomputable def same_b : CSumm := bodyCL Tryz.prog κe (fun _ => false) T10 true 300 Tryz.f12 m10
theorem same_k0 : Known Tryz.prog 12 same_b := ⟨⟨Tryz.f12, Tryz.func12, noNum_at noNumTry Tryz.func12, rfl⟩, bodyL_valid κeOk mixTry (ltab_cons sm_valid ltab_nil) Tryz.func12 (show Tryz.f12.body = some (fillC T10 m10) by kernel_rfl)⟩
theorem same_t (xs ys : List SV) : same_b [.psl 27 xs, .psl 27 ys] [] = bif ((xs.length : Int) != ys.length) then .ret (.bool false) [] else bif dec (smOk xs ys 0) then bif eqF (xs.drop (0 : Int).toNat) (ys.drop (0 : Int).toNat) then .ret (.bool true) [] else .ret (.bool false) [] else .fail := by kernel_rfl
def sameB (xs ys : List SV) : Bool := bif ((xs.length : Int) != ys.length) then false else eqF xs ys
def smSz (xs : List SV) : Prop := xs.length ≤ 1000000000
noncomputable def same_s : CSumm := fun args H => match args, H with
 | [.psl 27 xs, .psl 27 ys], [] => .ite (dec (smSz xs)) (.ret (.bool (sameB xs ys)) []) .fail
 | _, _ => .fail
theorem same_k : Known Tryz.prog 12 same_s := same_k0.weak (by
 intro args H v ups h
 unfold same_s at h
 split at h
 · rename_i xs ys
   rw [crun_ite] at h
   cases hc : dec (smSz xs) with
   | false => rw [hc] at h; cases h
   | true =>
    rw [hc, cond_true] at h
    refine (congrArg crun (same_t xs ys)).trans ?_
    rw [← h]
    unfold sameB
    by_cases hl : xs.length = ys.length
    · rw [show ((xs.length : Int) != ys.length) = false by rw [hl]; simp, cond_false, cond_false, dec_iff.2 ⟨hl, Int.le_refl _, by omega, dec_iff.1 hc⟩, cond_true]
      show crun (bif eqF xs ys then _ else _) = _
      cases eqF xs ys <;> rfl
    · rw [show ((xs.length : Int) != ys.length) = true by simp; omega]
      rfl
 · cases h)
theorem eqF_self : ∀ (xs : List SV), eqF xs xs = true
 | [] => rfl
 | x :: xs => by simp [eqF, cEq, eqF_self xs]
theorem sameB_self (xs : List SV) : sameB xs xs = true := by simp [sameB, eqF_self]
end Go.Proofs.YtpelignoebgkbaaGreatDoor
/- Scripts: the law of joins: its tree. -/
namespace Go.Proofs.YtpelignoebgkbaaGreatDoor
open Go.Am
set_option maxRecDepth 100000
noncomputable def light_s : CSumm := fun args H => match args, H with
 | [.str s], [] => .ret (.bool (decide ((s.length : Int) ≤ 3000))) []
 | _, _ => .fail
theorem light_t (s : List UInt8) : opn (tbl []) Tryz.f5 [.str s] [] = .ret (.bool (decide ((s.length : Int) ≤ 3000))) [] := by kernel_rfl
theorem light_k : Known Tryz.prog 5 light_s := (openKnown ok0 Tryz.func5 rfl).weak (by
 intro args H v ups h
 unfold light_s at h
 split at h
 · exact (congrArg crun (light_t _)).trans h
 · cases h)
end Go.Proofs.YtpelignoebgkbaaGreatDoor
/- Scripts: decimal numerals, known. -/
namespace Go.Proofs.YtpelignoebgkbaaGreatDoor
open Go.Am
set_option maxRecDepth 100000
noncomputable def pg : Nat := (Tryz.prog.globalNamed "internal/strconv.uint64pow10").getD 0
theorem pg_n : Tryz.prog.globalNamed "internal/strconv.uint64pow10" = some pg := by kernel_rfl
theorem gtab_eq : gtab Tryz.prog = [(pg, Lib.pow10Tab.map fun z => (IntKind.u64, z))] := by kernel_rfl
theorem tab_of {w : World} {Im : Nat → Prop} (h : GlobR Tryz.prog w Im) : Lib.TabIs Tryz.prog w "internal/strconv.uint64pow10" .u64 Lib.pow10Tab := h.tab pg_n (by rw [gtab_eq]; simp)
noncomputable def itoa_s : CSumm := fun args _ => match args with
 | [.int .i64 n] => .ite (dec (-9223372036854775808 ≤ n ∧ n ≤ 9223372036854775807)) (.ret (.str (Lib.itoa n)) []) .fail
 | _ => .fail
theorem itoa_k : Known Tryz.prog 24 itoa_s := known_shelf Tryz.func24 noNumTry rfl (fun args H v ups h => by
 unfold itoa_s at h
 split at h
 · rename_i n
   simp only [crun] at h
   split at h
   · rename_i hd
     obtain ⟨h0, h1⟩ := dec_iff.1 hd
     cases h
     refine ⟨rfl, fun ω θ Im w us hl hH => ?_⟩
     obtain ⟨u, rfl, hu⟩ := hl.single
     cases hu
     refine (Any.strconv_Itoa Tryz.lays171 n h0 h1 w (tab_of hH.gl)).mono ?_
     rintro e w' ⟨rfl, k, os, rfl⟩
     exact ⟨_, rfl, below_grown k os, fun _ => .str rfl⟩
   · cases h
 · cases h)
noncomputable def fmtu_s : CSumm := fun args _ => match args with
 | [.int .u64 n, .int .i64 b] => .ite (dec (0 ≤ n ∧ n ≤ 18446744073709551615 ∧ b = 10)) (.ret (.str (Lib.decDigits n.toNat)) []) .fail
 | _ => .fail
theorem fmtu_k : Known Tryz.prog 29 fmtu_s := known_shelf Tryz.func29 noNumTry rfl (fun args H v ups h => by
 unfold fmtu_s at h
 split at h
 · rename_i n b
   simp only [crun] at h
   split at h
   · rename_i hd
     obtain ⟨h0, h1, rfl⟩ := dec_iff.1 hd
     cases h
     refine ⟨rfl, fun ω θ Im w us hl hH => ?_⟩
     obtain ⟨u, v, rfl, hu, hv⟩ := hl.pair
     cases hu; cases hv
     have hc := formatUint29 n.toNat (by omega) w (tab_of hH.gl)
     rw [show ((n.toNat : Nat) : Int) = n by omega] at hc
     refine hc.mono ?_
     rintro e w' ⟨rfl, k, os, rfl⟩
     exact ⟨_, rfl, below_grown k os, fun _ => .str rfl⟩
   · cases h
 · cases h)
end Go.Proofs.YtpelignoebgkbaaGreatDoor
/- Scripts: texts of single words. -/
namespace Go.Proofs.YtpelignoebgkbaaGreatDoor
open Go.Am
set_option maxRecDepth 100000
def upF (b : Bool) : List UInt8 := bif b then [117, 112] else [100, 111, 119, 110]
noncomputable def st_s : CSumm := fun args H => match args, H with
 | [.bool b], [] => .ret (.str (upF b)) []
 | _, _ => .fail
theorem st_k : Known Tryz.prog 26 st_s := (openKnown ok0 Tryz.func26 rfl).weak (by
 intro args H v ups h
 unfold st_s at h
 split at h
 · rename_i b
   have ht : opn (tbl []) Tryz.f26 [.bool b] [] = bif b then .ret (.str [117, 112]) [] else .ret (.str [100, 111, 119, 110]) [] := by kernel_rfl
   refine (congrArg crun ht).trans ?_
   rw [← h]
   cases b <;> rfl
 · cases h)
def hwF (m : Int) : List UInt8 := bif m == 281474976710655 then [97, 108, 108] else (mactV m).1
noncomputable def hw_s : CSumm := fun args H => match args, H with
 | [.int .u64 m], [] => .ret (.str (hwF m)) []
 | _, _ => .fail
theorem hw_t (m : Int) : opn (tbl [(44, mact_s)]) Tryz.f27 [.int .u64 m] [] = bif m == 281474976710655 then .ret (.str [97, 108, 108]) [] else .ret (.str (mactV m).1) [] := by kernel_rfl
theorem hw_k : Known Tryz.prog 27 hw_s := (openKnown (tbl_cons mact_k ok0) Tryz.func27 rfl).weak (by
 intro args H v ups h
 unfold hw_s at h
 split at h
 · rename_i m
   refine (congrArg crun (hw_t m)).trans ?_
   rw [← h]
   unfold hwF
   cases (m == 281474976710655) <;> rfl
 · cases h)
end Go.Proofs.YtpelignoebgkbaaGreatDoor
