/- The reference's Line: its loops. -/
import Derived.Test.YtpelignoebgkbaaGreatDoorPart10
import Derived.Test.YtpelignoebgkbaaGreatDoorPart8
set_option linter.unusedVariables false
set_option linter.unusedSimpArgs false
namespace Go.Proofs.YtpelignoebgkbaaGreatDoor
open Go.Am
set_option maxRecDepth 100000
noncomputable def body7 : Code := Tryz.f7.body.getD .skip
noncomputable def c7a : Code := (loopAt 2 body7).getD .skip
noncomputable def c7b : Code := (loopAt 10 body7).getD .skip
def fltC (e a : Int) : List SV := [.int .i64 e, .int .i64 a]
def badU (e a : Int) : List (Nat × Option Chunk) := [(1, some (.cells 32 (fltC e a))), (0, some (.cells 27 (cmd0' 0).cs))]
def badR (v : SV) (e a : Int) : CTree := .ret (.tup [.int .i64 1, .bool false, v, .ptr 0 0, .ptr 1 0]) (badU e a)
def badV (e a : Int) : List (Nat × Option Chunk) := [(0, some (.cells 27 (cmd0' 0).cs)), (1, some (.cells 32 (fltC e a)))]
def badS (v : SV) (e a : Int) : CTree := .ret (.tup [.int .i64 1, .bool false, v, .ptr 0 0, .ptr 1 0]) (badV e a)
def goR (v : SV) : CTree := .ret (.tup [.int .i64 2, .junk, v, .ptr 0 0, .ptr 1 0]) []
def z27 : List SV := (cmd0' 0).cs
def z32 : List SV := fltC 0 0
def goE (v : SV) : CTree := .ret (.tup [.int .i64 4, .junk, v, .ptr 0 0, .ptr 1 0]) []
def nlOk (s : List UInt8) (i : Int) (cs ds : List SV) : Prop := 0 ≤ i ∧ i ≤ s.length ∧ s.length ≤ 1000000 ∧ cs = z27 ∧ ds = z32
def nlF : List UInt8 → Int → Option Int
 | [], _ => none
 | b :: s, i => bif (b.toNat : Int) == 10 then some i else nlF s (i + 1)
noncomputable def nl_s : CSumm := fun args H => match args, H with
 | [.str s, .int .i64 i, .ptr 0 0, .ptr 1 0], [(0, .cells 27 cs), (1, .cells 32 ds)] => .ite (dec (nlOk s i cs ds)) (.ite (nlF (s.drop i.toNat) i).isSome (badR (.str s) 19 ((nlF (s.drop i.toNat) i).getD 0)) (goR (.str s))) .fail
 | _, _ => .fail
def nlM : List SV → HpL → Nat
 | .str s :: .int _ i :: _, _ => ((s.length : Int) - i).toNat
 | _, _ => 0
noncomputable def e7a : LEnt := { ins := [0, 5, 2, 4], outs := [3, 0, 2, 4], keep := [], size := 124, code := c7a, s := nl_s }
noncomputable def nlN (N : Nat) (s : List UInt8) (i : Int) : CTree := bif Nat.blt ((s.length : Int) - i).toNat N then bif dec (nlOk s i z27 z32) then bif (nlF (s.drop i.toNat) i).isSome then badS (.str s) 19 ((nlF (s.drop i.toNat) i).getD 0) else goR (.str s) else .fail else .fail
theorem nl_t (N : Nat) (s : List UInt8) (i : Int) : loopOnce Tryz.prog κ0 (fun _ => false) (ltab []) true 300 e7a { e7a with s := boundT nlM nl_s N } c7a [.str s, .int .i64 i, .ptr 0 0, .ptr 1 0] [(0, .cells 27 z27), (1, .cells 32 z32)] =
 bif decide (i < s.length) then bif inB i s.length then bif ((s.getD i.toNat 0).toNat : Int) == 10 then badR (.str s) 19 i else nlN N s (w64 (i + 1)) else .fail else goR (.str s) := by kernel_rfl
def emF : List SV → Option Int
 | [] => none
 | w :: ws => bif wS w == [] then some (wA w) else emF ws
def emOk (ws : List SV) (i : Int) (cs ds : List SV) : Prop := 0 ≤ i ∧ i ≤ ws.length ∧ ws.length ≤ 2000000 ∧ cs = z27 ∧ ds = z32
noncomputable def em_s : CSumm := fun args H => match args, H with
 | [.psl 51 ws, .int .i64 i, .ptr 0 0, .ptr 1 0], [(0, .cells 27 cs), (1, .cells 32 ds)] => .ite (dec (emOk ws i cs ds)) (.ite (emF (ws.drop i.toNat)).isSome (badR (.psl 51 ws) 19 ((emF (ws.drop i.toNat)).getD 0)) (goE (.psl 51 ws))) .fail
 | _, _ => .fail
def emM : List SV → HpL → Nat
 | .psl _ ws :: .int _ i :: _, _ => ((ws.length : Int) - i).toNat
 | _, _ => 0
noncomputable def e7b : LEnt := { ins := [6, 7, 2, 4], outs := [3, 6, 2, 4], keep := [0], size := 124, code := c7b, s := em_s }
noncomputable def emN (N : Nat) (ws : List SV) (i : Int) : CTree := bif Nat.blt ((ws.length : Int) - i).toNat N then bif dec (emOk ws i z27 z32) then bif (emF (ws.drop i.toNat)).isSome then badS (.psl 51 ws) 19 ((emF (ws.drop i.toNat)).getD 0) else goE (.psl 51 ws) else .fail else .fail
theorem em_t (N : Nat) (ws : List SV) (i : Int) : loopOnce Tryz.prog κ0 (fun _ => false) (ltab []) true 300 e7b { e7b with s := boundT emM em_s N } c7b [.psl 51 ws, .int .i64 i, .ptr 0 0, .ptr 1 0] [(0, .cells 27 z27), (1, .cells 32 z32)] =
 bif decide (i < ws.length) then bif inB i ws.length then bif wS (ws.getD i.toNat .junk) == [] then bif inB i ws.length then badR (.psl 51 ws) 19 (wA (ws.getD i.toNat .junk)) else .fail else emN N ws (w64 (i + 1)) else .fail else goE (.psl 51 ws) := by kernel_rfl
theorem bad_same {H : HpL} {v : SV} {e a : Int} : ChainL Tryz.prog H v (badV e a) v (badU e a) := .same fun x => by
 unfold badU badV
 match x with
 | 0 => rfl
 | 1 => rfl
 | x + 2 => simp only [updF, show ¬ (x + 2 = 0) by omega, show ¬ (x + 2 = 1) by omega, if_false]
theorem nl_valid : ValidL Tryz.prog e7a := loop_valid5 (T := ltab []) (sp := true) (fuel := 300) (c := c7a) (μ := nlM) mixTry ltab_nil (show fillC (ltab []) c7a = c7a by kernel_rfl) (by
 intro N args H v' ups' hbt hr
 unfold e7a nl_s at hr
 simp only [] at hr
 split at hr
 · rename_i s i cs ds
   rw [crun_ite] at hr
   cases hc : dec (nlOk s i cs ds) with
   | false => rw [hc] at hr; cases hr
   | true =>
    rw [hc, cond_true, crun_ite] at hr
    obtain ⟨i0, i1, nl, rfl, rfl⟩ := dec_iff.1 hc
    have hN : Nat.blt ((s.length : Int) - i).toNat (N + 1) = true := hbt
    rw [Nat.blt_eq] at hN
    refine ⟨κ0, fun _ => false, κ0Ok, ?_⟩
    have ht := nl_t N s i
    obtain ⟨k, rfl⟩ := Int.eq_ofNat_of_zero_le i0
    have hk : ((k : Nat) : Int).toNat = k := rfl
    rw [hk] at hr ht
    by_cases hi : (k : Int) < s.length
    · rw [decide_eq_true hi, cond_true, inB_ok (by omega) (by omega), cond_true] at ht
      rw [getD_cons (by omega), nlF] at hr
      cases hq : (((s.getD k 0).toNat : Int) == 10) with
      | true =>
       rw [hq, cond_true] at ht
       rw [hq, cond_true] at hr
       cases hr
       exact ⟨_, _, congrArg crun ht, .same fun _ => rfl⟩
      | false =>
       rw [hq, cond_false] at ht
       rw [hq, cond_false] at hr
       unfold nlN at ht
       rw [show w64 ((k : Int) + 1) = ((k + 1 : Nat) : Int) from (w64_id (by omega) (by omega)).trans (by omega), show Nat.blt ((s.length : Int) - ((k + 1 : Nat) : Int)).toNat N = true by rw [Nat.blt_eq]; omega, cond_true, dec_iff.2 ⟨by omega, by omega, nl, rfl, rfl⟩, cond_true, show ((k + 1 : Nat) : Int).toNat = k + 1 from rfl] at ht
       rw [show (k : Int) + 1 = ((k + 1 : Nat) : Int) by omega] at hr
       cases hs : (nlF (s.drop (k + 1)) ((k + 1 : Nat) : Int)).isSome with
       | true =>
        rw [hs, cond_true] at ht hr
        cases hr
        exact ⟨_, _, congrArg crun ht, bad_same⟩
       | false =>
        rw [hs, cond_false] at ht hr
        exact ⟨v', ups', (congrArg crun ht).trans hr, .same fun _ => rfl⟩
    · rw [decide_eq_false hi, cond_false] at ht
      have : s.drop k = [] := List.drop_eq_nil_of_le (by omega)
      rw [this] at hr
      exact ⟨v', ups', (congrArg crun ht).trans hr, .same fun _ => rfl⟩
 · cases hr)
theorem em_valid : ValidL Tryz.prog e7b := loop_valid5 (T := ltab []) (sp := true) (fuel := 300) (c := c7b) (μ := emM) mixTry ltab_nil (show fillC (ltab []) c7b = c7b by kernel_rfl) (by
 intro N args H v' ups' hbt hr
 unfold e7b em_s at hr
 simp only [] at hr
 split at hr
 · rename_i ws i cs ds
   rw [crun_ite] at hr
   cases hc : dec (emOk ws i cs ds) with
   | false => rw [hc] at hr; cases hr
   | true =>
    rw [hc, cond_true, crun_ite] at hr
    obtain ⟨i0, i1, nl, rfl, rfl⟩ := dec_iff.1 hc
    have hN : Nat.blt ((ws.length : Int) - i).toNat (N + 1) = true := hbt
    rw [Nat.blt_eq] at hN
    refine ⟨κ0, fun _ => false, κ0Ok, ?_⟩
    have ht := em_t N ws i
    obtain ⟨k, rfl⟩ := Int.eq_ofNat_of_zero_le i0
    have hk : ((k : Nat) : Int).toNat = k := rfl
    rw [hk] at hr ht
    by_cases hi : (k : Int) < ws.length
    · rw [decide_eq_true hi, cond_true, inB_ok (by omega) (by omega), cond_true] at ht
      rw [getD_cons' (es := ws) (by omega), emF] at hr
      cases hq : (wS (ws.getD k .junk) == []) with
      | true =>
       rw [hq, cond_true, cond_true] at ht
       rw [hq, cond_true] at hr
       cases hr
       exact ⟨_, _, congrArg crun ht, .same fun _ => rfl⟩
      | false =>
       rw [hq, cond_false] at ht
       rw [hq, cond_false] at hr
       unfold emN at ht
       rw [show w64 ((k : Int) + 1) = ((k + 1 : Nat) : Int) from (w64_id (by omega) (by omega)).trans (by omega), show Nat.blt ((ws.length : Int) - ((k + 1 : Nat) : Int)).toNat N = true by rw [Nat.blt_eq]; omega, cond_true, dec_iff.2 ⟨by omega, by omega, nl, rfl, rfl⟩, cond_true, show ((k + 1 : Nat) : Int).toNat = k + 1 from rfl] at ht
       cases hs : (emF (ws.drop (k + 1))).isSome with
       | true =>
        rw [hs, cond_true] at ht hr
        cases hr
        exact ⟨_, _, congrArg crun ht, bad_same⟩
       | false =>
        rw [hs, cond_false] at ht hr
        exact ⟨v', ups', (congrArg crun ht).trans hr, .same fun _ => rfl⟩
    · rw [decide_eq_false hi, cond_false] at ht
      have : ws.drop k = [] := List.drop_eq_nil_of_le (by omega)
      rw [this] at hr
      exact ⟨v', ups', (congrArg crun ht).trans hr, .same fun _ => rfl⟩
 · cases hr)
end Go.Proofs.YtpelignoebgkbaaGreatDoor
/- The reference's Line: its tree. -/
namespace Go.Proofs.YtpelignoebgkbaaGreatDoor
open Go.Am
set_option maxRecDepth 100000
def kdU : Nat → UInt8
 | 0 => 97
 | 1 => 98
 | 2 => 115
 | 3 => 112
 | 4 => 117
 | 5 => 109
 | 6 => 105
 | _ => 110
def shC (w : List UInt8) : List (List UInt8 × Int × List Nat) → CTree
 | [] => .ret (.tup [.int .i64 0, .str []]) []
 | f :: r => .ite (w == f.1) (.ret (.tup [.int .i64 f.2.1, .str (f.2.2.map kdU)]) []) (shC w r)
noncomputable def shape_s : CSumm := fun args H => match args, H with
 | [.str w], [] => shC w formsL
 | _, _ => .fail
def shB (w : List UInt8) : List (List UInt8 × Int × List Nat) → CTree
 | [] => .ret (.tup [.int .i64 0, .str []]) []
 | f :: r => bif w == f.1 then .ret (.tup [.int .i64 f.2.1, .str (f.2.2.map kdU)]) [] else shB w r
theorem shB_C (w : List UInt8) : ∀ l, crun (shC w l) = crun (shB w l)
 | [] => rfl
 | f :: r => by
  unfold shC shB
  rw [crun_ite, shB_C w r]
  cases w == f.1 <;> rfl
theorem shape_t (w : List UInt8) : opn (tbl []) Tryz.f18 [.str w] [] = shB w formsL := by kernel_rfl
theorem shape_k : Known Tryz.prog 18 shape_s := (openKnown ok0 Tryz.func18 rfl).weak (by
 intro args H v ups h
 unfold shape_s at h
 split at h
 · rename_i w
   refine (congrArg crun (shape_t w)).trans ?_
   rw [← shB_C]
   exact h
 · cases h)
noncomputable abbrev T7 : LTab := ltab [("n", e7a), ("e", e7b)]
noncomputable abbrev m7 : Code := markC [(2, "n"), (10, "e")] body7
noncomputable abbrev κl : Nat → Option CSumm := tbl [(17, rwords_s), (18, shape_s), (19, rread_s)]
theorem κlOk : KOk Tryz.prog κl := tbl_cons rwords_k (tbl_cons shape_k (tbl_cons rread_k ok0))
noncomputable def rline_b : CSumm := bodyCL Tryz.prog κl (fun _ => false) T7 true 300 Tryz.f7 m7
theorem rline_k0 : Known Tryz.prog 7 rline_b := ⟨⟨Tryz.f7, Tryz.func7, noNum_at noNumTry Tryz.func7, rfl⟩, bodyL_valid κlOk mixTry (ltab_cons nl_valid (ltab_cons em_valid ltab_nil)) Tryz.func7 (show Tryz.f7.body = some (fillC T7 m7) by kernel_rfl)⟩
def badL (e a : Int) : CTree := lnO (cmd0' 0) false e a
def atW (ws : List SV) (k : Int) (K : SV → CTree) : CTree := bif inB k ws.length then K (ws.getD k.toNat .junk) else .fail
noncomputable def fmT (n : Int) (ws : List SV) : Int → List Nat → Cmd → CTree
 | j, [], x => bif decide ((ws.length : Int) > j) then atW ws j fun w => badL 19 (wA w) else lnO x true 0 0
 | j, q :: qs, x => bif decide (j ≥ (ws.length : Int)) then badL 19 n else atW ws j fun w => bif dec (x.cs = (asCmd x.cs).cs ∧ (wS w).length ≤ 1000000) then
   bif (rdR q (wS w) x).1 != 0 then atW ws j fun w => badL (rdR q (wS w) x).1 (wA w) else fmT n ws (j + 1) qs (rdR q (wS w) x).2 else .fail
noncomputable def shT (n : Int) (ws : List SV) (w0 : List UInt8) : List (List UInt8 × Int × List Nat) → CTree
 | [] => badL 8 0
 | f :: r => bif w0 == f.1 then fmT n ws 1 f.2.2 (cmd0' f.2.1) else shT n ws w0 r
noncomputable def rlW (s : List UInt8) (ws : List SV) : CTree :=
 bif dec (emOk ws 0 z27 z32) then bif (emF (ws.drop (0 : Int).toNat)).isSome then badL 19 ((emF (ws.drop (0 : Int).toNat)).getD 0) else
  atW ws 0 fun w => shT s.length ws (wS w) formsL
 else .fail
noncomputable def rlT (s : List UInt8) : CTree :=
 bif dec (nlOk s 0 z27 z32) then bif (nlF (s.drop (0 : Int).toNat) 0).isSome then badL 19 ((nlF (s.drop (0 : Int).toNat) 0).getD 0) else
  bif s == [] then badL 0 0 else bif inB 0 s.length then bif ((s.getD (0 : Int).toNat 0).toNat : Int) == 35 then badL 0 0 else
   bif decide (s.length ≤ 1000000) then rlW s (rwords s) else .fail
  else .fail
 else .fail
theorem rline_t (s : List UInt8) : rline_b [.str s] [] = rlT s := by kernel_rfl
end Go.Proofs.YtpelignoebgkbaaGreatDoor
/- The reference's Line is the program's. -/
namespace Go.Proofs.YtpelignoebgkbaaGreatDoor
open Go.Am
set_option maxRecDepth 100000
theorem nlF_eq : ∀ (s : List UInt8) (i : Int), nlF s i = if 0 ≤ Lib.indexByte s 10 then some (i + Lib.indexByte s 10) else none
 | [], i => by unfold nlF Lib.indexByte; rw [if_neg (by omega)]
 | b :: s, i => by
  have hge := Lib.indexByte_ge s 10
  unfold nlF Lib.indexByte
  rw [nlF_eq s (i + 1)]
  have hb : ((b.toNat : Int) == 10) = (b == 10) := by
   rw [Bool.eq_iff_iff, beq_iff_eq, beq_iff_eq]
   constructor
   · intro e; apply UInt8.toNat_inj.1; show b.toNat = 10; omega
   · intro e; rw [e]; rfl
  rw [hb]
  cases hq : (b == 10) with
  | true => rw [cond_true, if_pos rfl, if_pos (Int.le_refl _), Int.add_zero]
  | false =>
   rw [cond_false]
   simp only [Bool.false_eq_true, if_false]
   by_cases h1 : 0 ≤ Lib.indexByte s 10
   · have e : (Lib.indexByte s 10 == -1) = false := by rw [beq_eq_false_iff_ne]; omega
     rw [if_pos h1, e]
     simp only [Bool.false_eq_true, if_false]
     rw [if_pos (by omega)]
     congr 1; omega
   · have e : (Lib.indexByte s 10 == -1) = true := by rw [beq_iff_eq]; omega
     rw [if_neg h1, e]
     simp only [if_true]
     rw [if_neg (by omega)]
theorem emF_eq : ∀ (l : List (List UInt8)) (a : Int), emF (wlF (l.map SV.str) a) = (wordsF l a).2
 | [], _ => rfl
 | w :: l, a => by
  rw [List.map_cons, wlF, emF, wordsF]
  show (bif w == [] then some a else emF (wlF (l.map SV.str) (a + (w.length + 1)))) = _
  by_cases h : w = []
  · rw [if_pos h, show (w == []) = true by rw [h]; rfl]; rfl
  · rw [if_neg h, show (w == []) = false by simpa using h, cond_false, emF_eq l _]
theorem wlF_eq : ∀ (l : List (List UInt8)) (a : Int), (wordsF l a).2 = none → wlF (l.map SV.str) a = (wordsF l a).1.map wsv
 | [], _, _ => rfl
 | w :: l, a, h => by
  unfold wordsF at h ⊢
  split at h
  · cases h
  · rename_i hw
    rw [if_neg hw, List.map_cons, List.map_cons, wlF]
    show SV.agg [.str w, .int .i64 a] :: wlF (l.map SV.str) (a + (w.length + 1)) = _
    rw [wlF_eq l _ h]
    rfl
theorem wordsF_inv' : ∀ (l : List (List UInt8)) (a : Int), (wordsF l a).2 = none → ∀ v ∈ (wordsF l a).1, v.1 ≠ []
 | [], _, _ => by simp [wordsF]
 | w :: l, a, h => by
  unfold wordsF at h ⊢
  split at h
  · cases h
  · rename_i hw
    rw [if_neg hw]
    intro v hv
    rcases List.mem_cons.1 hv with rfl | hv
    · exact hw
    · exact wordsF_inv' l _ h v hv
theorem pip_err (s : List UInt8) : (pipV s).2 = 0 ∨ (pipV s).2 = 19 := by
 unfold pipV
 split
 · exact .inl rfl
 · exact .inr rfl
theorem mac_err (s : List UInt8) : (pmacV s).2 = 0 ∨ (pmacV s).2 = 19 := by
 unfold pmacV
 split
 · exact .inl rfl
 · exact .inr rfl
theorem rdR_W {w : List UInt8} (hw : w ≠ []) (x : Cmd) (q : Nat) : (rdR q w x).1 = (rdW q w x).1 ∧ ((rdW q w x).1 = 0 → (rdR q w x).2 = (rdW q w x).2) := by
 have hn : ∀ m, rnumV m w = numV m w := fun m => by unfold rnumV; rw [if_neg hw]
 match q with
 | 0 => unfold rdR rdW; simp only [hn]; exact ⟨trivial, fun _ => trivial⟩
 | 1 => unfold rdR rdW; simp only [hn]; exact ⟨trivial, fun _ => trivial⟩
 | 2 => unfold rdR rdW; simp only [hn]; exact ⟨trivial, fun _ => trivial⟩
 | 3 => unfold rdR rdW; simp only [hn]; exact ⟨trivial, fun _ => trivial⟩
 | 4 =>
  unfold rdR rdW
  simp only []
  by_cases h1 : w = sUp
  · rw [if_pos (.inl h1), if_pos h1]
    exact ⟨rfl, fun _ => by rw [h1]; rfl⟩
  · rw [if_neg h1]
    by_cases h2 : w = sDown
    · rw [if_pos (.inr h2), if_pos h2]
      exact ⟨rfl, fun _ => by rw [show (w == sUp) = false by simpa using h1]⟩
    · rw [if_neg (by rintro (e | e); exact h1 e; exact h2 e), if_neg h2]
      exact ⟨rfl, fun h => by cases h⟩
 | 5 =>
  unfold rdR rdW macF
  simp only []
  by_cases h1 : w = sAll
  · rw [if_pos h1, if_pos h1]; exact ⟨rfl, fun _ => rfl⟩
  · rw [if_neg h1, if_neg h1]
    rcases mac_err w with h | h
    · rw [if_pos h]; exact ⟨h, fun _ => rfl⟩
    · rw [if_neg (by omega)]; exact ⟨h, fun h => by cases h⟩
 | 6 =>
  unfold rdR rdW
  simp only []
  rcases pip_err w with h | h
  · rw [if_pos h]; exact ⟨h, fun _ => rfl⟩
  · rw [if_neg (by omega)]; exact ⟨h, fun h => by cases h⟩
 | q + 7 =>
  have hr := numV_rng (most := 9223372036854775807) (by omega) w
  unfold rdR rdW
  simp only [hn]
  rw [wu64_id hr.1 (by omega)]
  exact ⟨trivial, fun _ => rfl⟩
def resL (r : Int × Int × Cmd) : CTree := bif r.1 == 0 then lnO r.2.2 true 0 0 else badL r.1 r.2.1
theorem atW_at {all pre : List (List UInt8 × Int)} {w : List UInt8 × Int} {rest : List (List UInt8 × Int)} (h : all = pre ++ w :: rest) (K : SV → CTree) : atW (all.map wsv) (pre.length : Int) K = K (wsv w) := by
 subst h
 unfold atW
 rw [inB_ok (by omega) (by rw [List.length_map, List.length_append, List.length_cons]; omega), cond_true]
 congr 1
 rw [show ((pre.length : Nat) : Int).toNat = pre.length from rfl, List.map_append, List.getD_eq_getElem?_getD, List.getElem?_append_right (by rw [List.length_map]; omega), List.length_map, Nat.sub_self]
 rfl
theorem fmT_eq (n : Int) (all : List (List UInt8 × Int)) (hall : ∀ w ∈ all, w.1 ≠ [] ∧ w.1.length ≤ 1000000) : ∀ (qs : List Nat) (x : Cmd) (pre rest : List (List UInt8 × Int)), all = pre ++ rest → fmT n (all.map wsv) (pre.length : Int) qs x = resL (brF n qs x rest)
 | [], x, pre, [], h => by
  rw [fmT, decide_eq_false (by rw [List.length_map, h]; simp), cond_false]; rfl
 | [], x, pre, w :: rest, h => by
  rw [fmT, decide_eq_true (by rw [List.length_map, h, List.length_append, List.length_cons]; omega), cond_true, atW_at h]; rfl
 | q :: qs, x, pre, [], h => by
  rw [fmT, decide_eq_true (by rw [List.length_map, h]; simp), cond_true]; rfl
 | q :: qs, x, pre, w :: rest, h => by
  obtain ⟨h1, h2⟩ := hall w (by rw [h]; simp)
  obtain ⟨e1, e2⟩ := rdR_W h1 x q
  rw [fmT, decide_eq_false (by rw [List.length_map, h, List.length_append, List.length_cons]; omega), cond_false, atW_at h, wS_wsv, asCmd_cs, dec_iff.2 ⟨rfl, h2⟩, cond_true, e1]
  unfold brF
  by_cases he : (rdW q w.1 x).1 = 0
  · rw [if_pos he, he, show ((0 : Int) != 0) = false from rfl, cond_false, e2 he]
    have := fmT_eq n all hall qs (rdW q w.1 x).2 (pre ++ [w]) rest (by rw [h]; simp)
    rw [show ((pre ++ [w]).length : Int) = (pre.length : Int) + 1 by simp] at this
    exact this
  · rw [if_neg he, show ((rdW q w.1 x).1 != 0) = true by simpa using he, cond_true, atW_at h, wA_wsv, wS_wsv, e1]
    unfold resL
    rw [show ((rdW q w.1 x).1 == 0) = false by simpa using he, cond_false]
theorem shT_eq (n : Int) (w : List UInt8 × Int) (ws : List (List UInt8 × Int)) (hall : ∀ v ∈ w :: ws, v.1 ≠ [] ∧ v.1.length ≤ 1000000) : ∀ fs, shT n ((w :: ws).map wsv) w.1 fs = resL (frmF n w ws fs)
 | [] => rfl
 | f :: r => by
  rw [shT, frmF]
  by_cases h : f.1 = w.1
  · rw [if_pos h, show (w.1 == f.1) = true by simpa using h.symm, cond_true]
    exact fmT_eq n (w :: ws) hall f.2.2 (cmd0' f.2.1) [w] ws rfl
  · rw [if_neg h, show (w.1 == f.1) = false by rw [beq_eq_false_iff_ne]; exact fun e => h e.symm, cond_false]
    exact shT_eq n w ws hall r
theorem rlW_eq {s : List UInt8} (hs : s.length ≤ 1000000) : rlW s (rwords s) = resL (readF s) := by
 have hl : (spl 32 s).length ≤ s.length + 1 := splR_len 32 s []
 have hwl : ∀ (l : List SV) (a : Int), (wlF l a).length = l.length := fun l => by
  induction l with
  | nil => intro _; rfl
  | cons w l ih => intro a; rw [wlF, List.length_cons, ih, List.length_cons]
 unfold rlW
 rw [dec_iff.2 ⟨Int.le_refl _, by omega, by unfold rwords; rw [hwl, List.length_map]; omega, rfl, rfl⟩, cond_true, show (0 : Int).toNat = 0 from rfl, List.drop_zero]
 have he : emF (rwords s) = (words s).2 := emF_eq _ _
 rw [he]
 cases hw : (words s).2 with
 | some p =>
  unfold readF
  rw [hw]
  rfl
 | none =>
  have hr : rwords s = (words s).1.map wsv := wlF_eq _ _ hw
  rw [show (none : Option Int).isSome = false from rfl, cond_false, hr]
  have hinv := wordsF_inv' (spl 32 s) 0 hw
  have hlen := words_len (s := s)
  cases hq : (words s).1 with
  | nil => exact absurd hq (words_some hw)
  | cons w ws =>
   rw [show atW ((w :: ws).map wsv) 0 (fun v => shT s.length ((w :: ws).map wsv) (wS v) formsL) = _ from atW_at (pre := []) rfl _, wS_wsv]
   rw [shT_eq]
   · unfold readF; rw [hw, hq]
   · intro v hv
     rw [← hq] at hv
     exact ⟨hinv v hv, Nat.le_trans (hlen v hv) hs⟩
theorem rlT_eq {s : List UInt8} (hs : s.length ≤ 1000000) : rlT s = lnO (lineF s).1 (lineF s).2.1 (lineF s).2.2.1 (lineF s).2.2.2 := by
 unfold rlT
 rw [dec_iff.2 ⟨Int.le_refl _, by omega, hs, rfl, rfl⟩, cond_true, show (0 : Int).toNat = 0 from rfl, List.drop_zero, nlF_eq]
 unfold lineF
 by_cases h1 : 0 ≤ Lib.indexByte s 10
 · rw [if_pos h1, if_pos h1]
   show badL 19 (0 + Lib.indexByte s 10) = _
   rw [Int.zero_add]; rfl
 · rw [if_neg h1, if_neg h1, show (none : Option Int).isSome = false from rfl, cond_false]
   by_cases h2 : s = []
   · rw [if_pos (.inl h2), show (s == []) = true by rw [h2]; rfl]; rfl
   · have hpos : 0 < s.length := List.length_pos_iff.2 h2
     rw [show (s == []) = false by simpa using h2, cond_false, inB_ok (by omega) (by omega), cond_true]
     by_cases h3 : s.getD 0 0 = 35
     · rw [if_pos (.inr h3), show (((s.getD 0 0).toNat : Int) == 35) = true by rw [h3]; rfl]; rfl
     · rw [if_neg (by rintro (h | h); exact h2 h; exact h3 h), show (((s.getD 0 0).toNat : Int) == 35) = false by
         rw [beq_eq_false_iff_ne]
         intro e
         exact h3 (UInt8.toNat_inj.1 (by show (s.getD 0 0).toNat = 35; omega)), cond_false, decide_eq_true hs, cond_true, rlW_eq hs]
       unfold resL
       by_cases h4 : (readF s).1 = 0
       · rw [if_pos h4, show ((readF s).1 == 0) = true by simpa using h4]; rfl
       · rw [if_neg h4, show ((readF s).1 == 0) = false by simpa using h4]; rfl
theorem rline_k : Known Tryz.prog 7 line_s := rline_k0.weak (by
 intro args H v ups h
 unfold line_s at h
 split at h
 · rename_i s
   rw [crun_ite, cond_eq_ite] at h
   split at h
   · rename_i hc
     refine (congrArg crun ((rline_t s).trans (rlT_eq (of_decide_eq_true hc)))).trans h
   · cases h
 · cases h)
end Go.Proofs.YtpelignoebgkbaaGreatDoor
/- The reference's Parse: its loop. -/
namespace Go.Proofs.YtpelignoebgkbaaGreatDoor
open Go.Am
set_option maxRecDepth 100000
noncomputable abbrev κQ : Nat → Option CSumm := tbl [(7, line_s), (22, spl_s)]
theorem κQok : KOk Tryz.prog κQ := tbl_cons rline_k (tbl_cons spl_k ok0)
noncomputable def body9 : Code := Tryz.f9.body.getD .skip
noncomputable def c9 : Code := (loopAt 6 body9).getD .skip
noncomputable def qr_s : CSumm := fun args H => match args, H with
 | [.psl 9 ls, .int .i64 i, .ptr 0 0, .qs 1 8 0 m], [(0, .cells 32 [.int .i64 _, .int .i64 _]), (1, .seq 27 es)] => .ite (dec (plOk ls ls.length i m es)) (.ite ((pF (ls.drop i.toNat) i).2.1 == 0) (plX (es ++ (pF (ls.drop i.toNat) i).1)) (plR (pF (ls.drop i.toNat) i).2.1 (pF (ls.drop i.toNat) i).2.2)) .fail
 | _, _ => .fail
def qrM : List SV → HpL → Nat
 | .psl _ ls :: .int _ i :: _, _ => ((ls.length : Int) - i).toNat
 | _, _ => 0
noncomputable def e9 : LEnt := { ins := [4, 6, 3, 5], outs := [2, 3, 5], keep := [], size := 45, code := c9, s := qr_s }
noncomputable def qrN' (N : Nat) (ls es : List SV) (i : Int) (m : Nat) : CTree := bif Nat.blt ((ls.length : Int) - i).toNat N then bif dec (plOk ls ls.length i m es) then bif (pF (ls.drop i.toNat) i).2.1 == 0 then plX (es ++ (pF (ls.drop i.toNat) i).1) else plR' (pF (ls.drop i.toNat) i).2.1 (pF (ls.drop i.toNat) i).2.2 else .fail else .fail
noncomputable def qrN (N : Nat) (ls es : List SV) (i : Int) (m : Nat) : CTree := bif Nat.blt ((ls.length : Int) - i).toNat N then bif dec (plOk ls ls.length i m es) then bif (pF (ls.drop i.toNat) i).2.1 == 0 then plX (es ++ (pF (ls.drop i.toNat) i).1) else plR (pF (ls.drop i.toNat) i).2.1 (pF (ls.drop i.toNat) i).2.2 else .fail else .fail
theorem qr_t (N : Nat) (ls es : List SV) (i e0 a0 : Int) (m : Nat) : loopOnce Tryz.prog κQ (fun _ => false) (ltab []) true 300 e9 { e9 with s := boundT qrM qr_s N } c9 [.psl 9 ls, .int .i64 i, .ptr 0 0, .qs 1 8 0 m] [(0, .cells 32 [.int .i64 e0, .int .i64 a0]), (1, .seq 27 es)] =
 bif decide (i < ls.length) then bif inB i ls.length then bif decide ((asS (ls.getD i.toNat .junk)).length ≤ 1000000) then
  bif (lineF (asS (ls.getD i.toNat .junk))).2.2.1 != 0 then .ret (.tup [.int .i64 1, .nils, .ptr 0 0, .qs 1 8 0 m]) [(0, some (.cells 32 [.int .i64 (lineF (asS (ls.getD i.toNat .junk))).2.2.1, .int .i64 i]))] else
  bif (lineF (asS (ls.getD i.toNat .junk))).2.1 then
   bif decide (m = es.length) then bif decide (es.length + 1 ≤ 9223372036854775807) && decide ((es.length + 1) * Tryz.prog.types[27].bytes ≤ 140737488355328) then
    qrN N ls (es ++ [.agg (lineF (asS (ls.getD i.toNat .junk))).1.cs]) (w64 (i + 1)) (es.length + 1)
   else .fail else .fail
  else qrN' N ls es (w64 (i + 1)) m
 else .fail else .fail
 else .ret (.tup [.int .i64 2, .junk, .ptr 0 0, .qs 1 8 0 m]) [] := by kernel_rfl
end Go.Proofs.YtpelignoebgkbaaGreatDoor
