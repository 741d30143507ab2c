/- Scripts: a string is split at a byte: what is asked of strings. -/
import Derived.Test.YtpelignoebgkbaaGreatDoorPart4
import Derived.Test.YtpelignoebgkbaaGreatDoorPart5
import Derived.Test.YtpelignoebgkbaaGreatDoorMachine9
set_option linter.unusedVariables false
set_option linter.unusedSimpArgs false
namespace Go.Proofs.YtpelignoebgkbaaGreatDoor
open Go.Am
set_option maxRecDepth 100000
noncomputable def idx_s : CSumm := fun args H => match args, H with
 | [.str s, .str [c]], [] => .ret (.int .i64 (Lib.indexByte s c)) []
 | _, _ => .fail
theorem idx_t (s : List UInt8) (c : UInt8) : opn (tbl []) Tryz.f41 [.str s, .str [c]] [] = bif (bif (([c].length : Nat) : Int) == 0 then true else [c] == s) then .ret (.int .i64 0) [] else .ret (.int .i64 (Lib.indexByte s (((([c].getD (0 : Int).toNat 0).toNat : Nat) : Int).toNat.toUInt8))) [] := by kernel_rfl
theorem byte_back (c : UInt8) : ((([c].getD (0 : Int).toNat 0).toNat : Nat) : Int).toNat.toUInt8 = c := by
 show c.toNat.toUInt8 = c
 simp
theorem idx_k : Known Tryz.prog 41 idx_s := (openKnown ok0 Tryz.func41 rfl).weak (by
 intro args H v ups h
 unfold idx_s at h
 split at h
 · rename_i s c
   refine (congrArg crun (idx_t s c)).trans ?_
   rw [byte_back, show ((([c].length : Nat) : Int) == 0) = false from rfl, cond_false, ← h]
   by_cases hq : [c] = s
   · subst hq
     rw [show ([c] == [c]) = true by simp, cond_true]
     rcases cutF_idx c [c] with ⟨h2, h3⟩ | ⟨k, h2, h3, h4⟩
     · simp [cutF] at h3
     · have : k = 0 := by simp at h3; exact h3
       rw [h2, this]; rfl
   · rw [show ([c] == s) = false by simpa using hq, cond_false]
 · cases h)
noncomputable def cnt_s : CSumm := fun args H => match args, H with
 | [.str s, .str [c]], [] => .ret (.int .i64 (Lib.countByte s c)) []
 | _, _ => .fail
theorem cnt_t (s : List UInt8) (c : UInt8) : opn (tbl []) Tryz.f20 [.str s, .str [c]] [] = .ret (.int .i64 (Lib.countByte s (((([c].getD (0 : Int).toNat 0).toNat : Nat) : Int).toNat.toUInt8))) [] := by kernel_rfl
theorem cnt_k : Known Tryz.prog 20 cnt_s := (openKnown ok0 Tryz.func20 rfl).weak (by
 intro args H v ups h
 unfold cnt_s at h
 split at h
 · rename_i s c
   refine (congrArg crun (cnt_t s c)).trans ?_
   rw [byte_back, ← h]
 · cases h)
noncomputable abbrev κI : Nat → Option CSumm := tbl [(41, idx_s), (20, cnt_s)]
theorem κIok : KOk Tryz.prog κI := tbl_cons idx_k (tbl_cons cnt_k ok0)
def gsF (c : UInt8) : Nat → List UInt8 → Nat → List SV → List UInt8 × Nat × List SV
 | 0, s, k, es => (s, k, es)
 | m + 1, s, k, es => bif (cutF c s).2.2 then gsF c m (cutF c s).2.1 (k + 1) (es.set k (.str (cutF c s).1)) else (s, k, es)
noncomputable def body39 : Code := Tryz.f42.body.getD .skip
noncomputable def c39 : Code := (loopAt 11 body39).getD .skip
def gsOk (s : List UInt8) (m i : Int) (n : Nat) (es : List SV) : Prop := s.length ≤ 1000000 ∧ n = es.length ∧ 0 ≤ i ∧ i ≤ m ∧ m < n ∧ n ≤ 2000000
def gsR (r : List UInt8 × Nat × List SV) (n : Nat) : CTree := .ret (.tup [.int .i64 2, .str r.1, .qs 0 1 0 n, .int .i64 (r.2.1 : Nat)]) [(0, some (.seq 9 r.2.2))]
noncomputable def gs_s : CSumm := fun args H => match args, H with
 | [.str s, .str [c], .int .i64 0, .int .i64 m, .qs 0 1 0 n, .int .i64 i], [(0, .seq 9 es)] => .ite (dec (gsOk s m i n es)) (gsR (gsF c (m - i).toNat s i.toNat es) n) .fail
 | _, _ => .fail
def gsM : List SV → HpL → Nat
 | [_, _, _, .int _ m, _, .int _ i], _ => (m - i).toNat
 | _, _ => 0
noncomputable def e39 : LEnt := { ins := [0, 1, 2, 3, 9, 10], outs := [0, 9, 10], keep := [], size := 66, code := c39, s := gs_s }
noncomputable def gsN (N : Nat) (s : List UInt8) (c : UInt8) (es : List SV) (n : Nat) (m i : Int) : CTree := bif Nat.blt (m - i).toNat N then bif dec (gsOk s m i n es) then gsR (gsF c (m - i).toNat s i.toNat es) n else .fail else .fail
def gsE (s : List UInt8) (n : Nat) (i : Int) : CTree := .ret (.tup [.int .i64 2, .str s, .qs 0 1 0 n, .int .i64 i]) []
theorem gs_t (N : Nat) (s : List UInt8) (c : UInt8) (es : List SV) (n : Nat) (m i : Int) : loopOnce Tryz.prog κI (fun _ => false) (ltab []) true 300 e39 { e39 with s := boundT gsM gs_s N } c39 [.str s, .str [c], .int .i64 0, .int .i64 m, .qs 0 1 0 n, .int .i64 i] [(0, .seq 9 es)] =
 bif decide (i < m) then bif decide (Lib.indexByte s c < 0) then gsE s n i else
  bif decide ((0 : Int) ≤ 0) && decide (0 ≤ w64 (Lib.indexByte s c + 0)) && decide (w64 (Lib.indexByte s c + 0) ≤ s.length) then bif inB i n then bif decide (0 + i.toNat < es.length) then
   bif decide (0 ≤ w64 (Lib.indexByte s c + (([c].length : Nat) : Int))) && decide (w64 (Lib.indexByte s c + (([c].length : Nat) : Int)) ≤ s.length) && decide ((s.length : Int) ≤ s.length) then
    gsN N ((s.drop (w64 (Lib.indexByte s c + (([c].length : Nat) : Int))).toNat).take ((s.length : Int).toNat - (w64 (Lib.indexByte s c + (([c].length : Nat) : Int))).toNat)) c (es.set (0 + i.toNat) (.str ((s.drop (0 : Int).toNat).take ((w64 (Lib.indexByte s c + 0)).toNat - (0 : Int).toNat)))) n m (w64 (i + 1))
   else .fail else .fail else .fail else .fail
 else gsE s n i := by kernel_rfl
theorem gs_same {s : List UInt8} {n : Nat} {k : Nat} {es : List SV} {v' : SV} {ups' : List (Nat × Option Chunk)} (h : crun (gsR (s, k, es) n) = some (v', ups')) : ∃ v ups, crun (gsE s n k) = some (v, ups) ∧ ChainL Tryz.prog [(0, .seq 9 es)] v ups v' ups' := by
 cases h
 refine ⟨_, _, rfl, .same fun x => ?_⟩
 match x with
 | 0 => rfl
 | x + 1 => rfl
theorem gs_valid : ValidL Tryz.prog e39 := loop_valid5 (T := ltab []) (sp := true) (fuel := 300) (c := c39) (μ := gsM) mixTry ltab_nil (show fillC (ltab []) c39 = c39 by kernel_rfl) (by
 intro N args H v' ups' hbt hr
 unfold e39 gs_s at hr
 simp only [] at hr
 split at hr
 · rename_i s c m n i es
   rw [crun_ite] at hr
   cases hc : dec (gsOk s m i n es) with
   | false => rw [hc] at hr; cases hr
   | true =>
    rw [hc, cond_true] at hr
    obtain ⟨hs, rfl, i0, i1, mn, hn⟩ := dec_iff.1 hc
    have hN : Nat.blt (m - i).toNat (N + 1) = true := hbt
    rw [Nat.blt_eq] at hN
    refine ⟨κI, fun _ => false, κIok, ?_⟩
    have ht := gs_t N s c es es.length m i
    obtain ⟨k, rfl⟩ := Int.eq_ofNat_of_zero_le i0
    have hk : ((k : Nat) : Int).toNat = k := rfl
    rw [hk] at hr ht
    by_cases hi : (k : Int) < m
    · rw [decide_eq_true hi, cond_true] at ht
      obtain ⟨q, hq⟩ : ∃ q, (m - (k : Int)).toNat = q + 1 := ⟨(m - (k : Int)).toNat - 1, by omega⟩
      rw [hq, gsF] at hr
      rcases cutF_idx c s with ⟨h1, h2⟩ | ⟨j, h1, h2, h3⟩
      · rw [h1, show decide ((-1 : Int) < 0) = true from rfl, cond_true] at ht
        rw [h2, cond_false] at hr
        obtain ⟨v, ups, g1, g2⟩ := gs_same hr
        exact ⟨v, ups, (congrArg crun ht).trans g1, g2⟩
      · have e0 : w64 ((j : Int) + 0) = (j : Nat) := (w64_id (by omega) (by omega)).trans (by omega)
        have e1 : w64 ((j : Int) + (([c].length : Nat) : Int)) = ((j + 1 : Nat) : Int) := (w64_id (by simp; omega) (by simp; omega)).trans (by simp)
        rw [h1, decide_eq_false (show ¬ (j : Int) < 0 by omega), cond_false, e0, e1, slB_ok (a := 0) (b := (j : Int)) (n := (s.length : Int)) (by omega) (by omega) (by omega), cond_true, inB_ok (by omega) (by omega), cond_true, Nat.zero_add, decide_eq_true (show k < es.length by omega), cond_true,
         slB_ok (a := ((j + 1 : Nat) : Int)) (b := (s.length : Int)) (n := (s.length : Int)) (by omega) (by omega) (by omega), cond_true, show w64 ((k : Int) + 1) = ((k + 1 : Nat) : Int) from (w64_id (by omega) (by omega)).trans (by omega)] at ht
        have hd : (s.drop ((j + 1 : Nat) : Int).toNat).take ((s.length : Int).toNat - ((j + 1 : Nat) : Int).toNat) = s.drop (j + 1) := by
         show (s.drop (j + 1)).take (s.length - (j + 1)) = _
         exact List.take_of_length_le (by rw [List.length_drop]; exact Nat.le_refl _)
        have hp : (s.drop (0 : Int).toNat).take (((j : Nat) : Int).toNat - (0 : Int).toNat) = s.take j := rfl
        rw [hd, hp] at ht
        unfold gsN at ht
        rw [show Nat.blt (m - ((k + 1 : Nat) : Int)).toNat N = true by rw [Nat.blt_eq]; omega, cond_true, dec_iff.2 ⟨by rw [List.length_drop]; omega, by simp, by omega, by omega, by omega, by omega⟩, cond_true] at ht
        rw [h3, cond_true] at hr
        have hq2 : (m - ((k + 1 : Nat) : Int)).toNat = q := by omega
        rw [hq2, show ((k + 1 : Nat) : Int).toNat = k + 1 from rfl] at ht
        exact ⟨v', ups', (congrArg crun ht).trans hr, .same fun _ => rfl⟩
    · rw [decide_eq_false hi, cond_false] at ht
      have hq : (m - (k : Int)).toNat = 0 := by omega
      rw [hq, gsF] at hr
      obtain ⟨v, ups, g1, g2⟩ := gs_same hr
      exact ⟨v, ups, (congrArg crun ht).trans g1, g2⟩
 · cases hr)
noncomputable abbrev T39 : LTab := ltab [("g", e39)]
noncomputable abbrev m39 : Code := markC [(11, "g")] body39
noncomputable def gen_b : CSumm := bodyCL Tryz.prog κI (fun _ => false) T39 true 300 Tryz.f42 m39
theorem gen_k0 : Known Tryz.prog 42 gen_b := ⟨⟨Tryz.f42, Tryz.func42, noNum_at noNumTry Tryz.func42, rfl⟩, bodyL_valid κIok mixTry (ltab_cons gs_valid ltab_nil) Tryz.func42 (show Tryz.f42.body = some (fillC T39 m39) by kernel_rfl)⟩
def gnN (s : List UInt8) (c : UInt8) : Int := bif decide (w64 ((s.length : Int) + 1) < w64 ((Lib.countByte s c : Int) + 1)) then w64 ((s.length : Int) + 1) else w64 ((Lib.countByte s c : Int) + 1)
noncomputable def gnX (r : List UInt8 × Nat × List SV) (n : Nat) : CTree :=
 bif inB (r.2.1 : Nat) n then bif decide (0 + ((r.2.1 : Nat) : Int).toNat < r.2.2.length) then bif decide ((0 : Int) ≤ 0) && decide (0 ≤ w64 (((r.2.1 : Nat) : Int) + 1)) && decide (w64 (((r.2.1 : Nat) : Int) + 1) ≤ (n : Nat)) then
  .ret (.qs 0 1 0 ((w64 (((r.2.1 : Nat) : Int) + 1)).toNat - (0 : Int).toNat)) [(0, some (.seq 9 (r.2.2.set (0 + ((r.2.1 : Nat) : Int).toNat) (.str r.1))))]
 else .fail else .fail else .fail
theorem gen_t (s : List UInt8) (c : UInt8) : gen_b [.str s, .str [c], .int .i64 0, .int .i64 (-1)] [] =
 bif decide (0 ≤ gnN s c) && decide (gnN s c = gnN s c) && decide (gnN s c ≤ 16777216) && decide ((Tryz.prog.types[9].bytes : Int) * gnN s c ≤ 281474976710656) then
  bif dec (gsOk s (w64 (gnN s c - 1)) 0 (gnN s c).toNat (List.replicate (gnN s c).toNat (.str []))) then gnX (gsF c (w64 (gnN s c - 1) - 0).toNat s (0 : Int).toNat (List.replicate (gnN s c).toNat (.str []))) (gnN s c).toNat else .fail
 else .fail := by kernel_rfl
end Go.Proofs.YtpelignoebgkbaaGreatDoor
/- Scripts: a string is split at a byte, known. -/
namespace Go.Proofs.YtpelignoebgkbaaGreatDoor
open Go.Am
set_option maxRecDepth 100000
theorem cnt_cut (c : UInt8) : ∀ s : List UInt8, Lib.countByte s c = bif (cutF c s).2.2 then Lib.countByte (cutF c s).2.1 c + 1 else 0
 | [] => rfl
 | x :: xs => by
  have ih := cnt_cut c xs
  unfold Lib.countByte at ih ⊢
  unfold cutF
  rw [List.count_cons]
  cases x == c with
  | true => simp
  | false => simp; exact ih
theorem cnt_le (s : List UInt8) (c : UInt8) : Lib.countByte s c ≤ s.length := List.count_le_length
theorem gsF_all (c : UInt8) : ∀ (m : Nat) (s : List UInt8) (k : Nat) (pre rest : List SV), Lib.countByte s c = m → rest.length = m + 1 → pre.length = k →
  (gsF c m s k (pre ++ rest)).2.1 = k + m ∧ (gsF c m s k (pre ++ rest)).2.2.length = k + m + 1 ∧ (gsF c m s k (pre ++ rest)).2.2.set (k + m) (.str (gsF c m s k (pre ++ rest)).1) = pre ++ (spl (c.toNat : Int) s).map SV.str
 | 0, s, k, pre, rest, hc, hr, hp => by
  have h1 := cnt_cut c s
  rw [hc] at h1
  have h2 : (cutF c s).2.2 = false := by cases h : (cutF c s).2.2 with | false => rfl | true => rw [h] at h1; simp at h1
  have h3 : (cutF c s).1 = s := by
   rcases cutF_idx c s with ⟨_, h⟩ | ⟨k, _, _, h⟩
   · rw [h]
   · rw [h] at h2; cases h2
  match rest, hr with
  | [x], _ =>
   simp only [gsF]
   refine ⟨by omega, by simp; omega, ?_⟩
   rw [spl_cut, h2, h3, cond_false, Nat.add_zero, ← hp]
   simp
 | m + 1, s, k, pre, rest, hc, hr, hp => by
  have h1 := cnt_cut c s
  rw [hc] at h1
  have h2 : (cutF c s).2.2 = true := by cases h : (cutF c s).2.2 with | true => rfl | false => rw [h] at h1; simp at h1
  rw [h2, cond_true] at h1
  match rest, hr with
  | x :: rest, hr =>
   have e : (pre ++ x :: rest).set k (.str (cutF c s).1) = (pre ++ [.str (cutF c s).1]) ++ rest := by rw [← hp]; simp
   obtain ⟨g1, g2, g3⟩ := gsF_all c m (cutF c s).2.1 (k + 1) (pre ++ [.str (cutF c s).1]) rest (by omega) (by simpa using hr) (by simp [hp])
   simp only [gsF, h2, cond_true, e]
   refine ⟨by rw [g1]; omega, by rw [g2]; omega, ?_⟩
   rw [show k + (m + 1) = k + 1 + m by omega, g3, spl_cut c s, h2, cond_true]
   simp
theorem b9' : decide (Tryz.prog.types[9].bytes ≤ 1000) = true := by kernel_rfl
theorem spl_len (c : UInt8) (s : List UInt8) : (spl (c.toNat : Int) s).length = Lib.countByte s c + 1 := by
 obtain ⟨_, h2, h3⟩ := gsF_all c (Lib.countByte s c) s 0 [] (List.replicate (Lib.countByte s c + 1) .junk) rfl (by simp) rfl
 have := congrArg List.length h3
 simp at this h2
 omega
theorem gen_run {s : List UInt8} {c : UInt8} (hs : s.length ≤ 1000000) : gen_b [.str s, .str [c], .int .i64 0, .int .i64 (-1)] [] = .ret (.qs 0 1 0 ((spl (c.toNat : Int) s).map SV.str).length) [(0, some (.seq 9 ((spl (c.toNat : Int) s).map SV.str)))] := by
 have hle := cnt_le s c
 have hl := spl_len c s
 generalize hm : Lib.countByte s c = m at hle hl
 have hn : gnN s c = ((m + 1 : Nat) : Int) := by
  unfold gnN
  rw [hm, show w64 ((s.length : Int) + 1) = (s.length : Int) + 1 from w64_id (by omega) (by omega), show w64 ((m : Int) + 1) = (m : Int) + 1 from w64_id (by omega) (by omega), decide_eq_false (by omega), cond_false]
  omega
 have hb := of_decide_eq_true b9'
 have hb2 : (Tryz.prog.types[9].bytes : Int) * ((m + 1 : Nat) : Int) ≤ 281474976710656 := by
  have : Tryz.prog.types[9].bytes * (m + 1) ≤ 1000 * (m + 1) := Nat.mul_le_mul_right _ hb
  have h2 : ((Tryz.prog.types[9].bytes * (m + 1) : Nat) : Int) ≤ ((1000 * (m + 1) : Nat) : Int) := by exact_mod_cast this
  push_cast at h2 ⊢
  omega
 have e1 : w64 (((m + 1 : Nat) : Int) - 1) = (m : Nat) := (w64_id (by omega) (by omega)).trans (by omega)
 obtain ⟨g1, g2, g3⟩ := gsF_all c m s 0 [] (List.replicate (m + 1) (.str [])) hm (by simp) rfl
 simp only [List.nil_append, Nat.zero_add] at g1 g2 g3
 rw [gen_t, hn, decide_eq_true (show (0 : Int) ≤ ((m + 1 : Nat) : Int) by omega), decide_eq_true rfl, decide_eq_true (show ((m + 1 : Nat) : Int) ≤ 16777216 by omega), decide_eq_true hb2]
 simp only [Bool.and_self, cond_true, Int.toNat_natCast, e1, Int.sub_zero]
 rw [dec_iff.2 ⟨hs, by simp, Int.le_refl _, by omega, by omega, by omega⟩, cond_true]
 unfold gnX
 have e2 : w64 (((m : Nat) : Int) + 1) = ((m + 1 : Nat) : Int) := (w64_id (by omega) (by omega)).trans (by omega)
 have e0 : (0 : Int).toNat = 0 := rfl
 simp only [e0, g1, g2]
 rw [inB_ok (by omega) (by omega), cond_true]
 simp only [Int.toNat_natCast, Nat.zero_add, e2]
 rw [decide_eq_true (show m < m + 1 by omega), cond_true, slB_ok (a := 0) (b := ((m + 1 : Nat) : Int)) (n := ((m + 1 : Nat) : Int)) (by omega) (by omega) (by omega), cond_true, g3]
 simp only [Int.toNat_natCast, Nat.sub_zero, List.length_map, hl]
noncomputable def gen_s : CSumm := fun args H => match args, H with
 | [.str s, .str [c], .int .i64 0, .int .i64 (-1)], [] => .ite (decide (s.length ≤ 1000000)) (.ret (.psl 9 ((spl (c.toNat : Int) s).map SV.str)) []) .fail
 | _, _ => .fail
theorem gen_k : Known Tryz.prog 42 gen_s := known_told gen_k0 (by
 intro args H v' ups' h
 unfold gen_s at h
 split at h
 · rename_i s c
   rw [crun_ite, cond_eq_ite] at h
   split at h
   · rename_i hc
     have hs := of_decide_eq_true hc
     cases h
     refine ⟨_, _, congrArg crun (gen_run hs), .inl ⟨0, 9, _, rfl, .qs rfl, fun x c' hx => ?_⟩⟩
     simp [updF, HpL.get] at hx
   · cases h
 · cases h)
noncomputable def split_s : CSumm := fun args H => match args, H with
 | [.str s, .str [c]], [] => .ite (decide (s.length ≤ 1000000)) (.ret (.psl 9 ((spl (c.toNat : Int) s).map SV.str)) []) .fail
 | _, _ => .fail
theorem split_t (s : List UInt8) (c : UInt8) : opn (tbl [(42, gen_s)]) Tryz.f21 [.str s, .str [c]] [] = bif decide (s.length ≤ 1000000) then .ret (.psl 9 ((spl (c.toNat : Int) s).map SV.str)) [] else .fail := by kernel_rfl
theorem split_k : Known Tryz.prog 21 split_s := (openKnown (tbl_cons gen_k ok0) Tryz.func21 rfl).weak (by
 intro args H v ups h
 unfold split_s at h
 split at h
 · exact (congrArg crun (split_t _ _)).trans (by rw [crun_cond]; rw [crun_ite] at h; exact h)
 · cases h)
end Go.Proofs.YtpelignoebgkbaaGreatDoor
/- Scripts: the words of a line. -/
namespace Go.Proofs.YtpelignoebgkbaaGreatDoor
open Go.Am
set_option maxRecDepth 100000
def wdF : List SV → Int → List SV × Option Int
 | [], _ => ([], none)
 | w :: ws, a => bif asS w == [] then ([], some a) else (.agg [.str (asS w), .int .i64 a] :: (wdF ws (a + ((asS w).length + 1))).1, (wdF ws (a + ((asS w).length + 1))).2)
def lenS : List SV → Nat
 | [] => 0
 | w :: ws => (asS w).length + 1 + lenS ws
def wdOk (ws : List SV) (n i at' : Int) (m : Nat) (es : List SV) : Prop := n = ws.length ∧ 0 ≤ i ∧ i ≤ n ∧ m = es.length ∧ (m : Int) ≤ i ∧ n ≤ 2000000 ∧ 0 ≤ at' ∧ at' + lenS (ws.drop i.toNat) ≤ 4000000
noncomputable def body52 : Code := Tryz.f34.body.getD .skip
noncomputable def c52 : Code := (loopAt 4 body52).getD .skip
def wdB (a : Int) : CTree := .ret (.tup [.int .i64 1000019, .junk, flt 19 a]) [(0, none)]
def wdG (es : List SV) : CTree := .ret (.tup [.int .i64 2, .qs 1 2 0 es.length, .junk]) [(0, none), (1, some (.seq 76 es))]
def wdZ (r : List SV × Option Int) (es : List SV) : CTree := .ite r.2.isSome (wdB (r.2.getD 0)) (wdG (es ++ r.1))
noncomputable def ws_s : CSumm := fun args H => match args, H with
 | [.psl 9 ws, .int .i64 n, .int .i64 i, .qs 0 2 0 m, .int .i64 a], [(0, .seq 76 es)] => .ite (dec (wdOk ws n i a m es)) (wdZ (wdF (ws.drop i.toNat) a) es) .fail
 | _, _ => .fail
def wsM : List SV → HpL → Nat
 | _ :: .int _ n :: .int _ i :: _, _ => (n - i).toNat
 | _, _ => 0
noncomputable def e52 : LEnt := { ins := [8, 9, 10, 3, 4], outs := [3, 17], keep := [], size := 31, code := c52, s := ws_s }
noncomputable def wsN (N : Nat) (ws es : List SV) (n i a : Int) (m : Nat) : CTree := bif Nat.blt (n - i).toNat N then bif dec (wdOk ws n i a m es) then bif (wdF (ws.drop i.toNat) a).2.isSome then wdB ((wdF (ws.drop i.toNat) a).2.getD 0) else wdG (es ++ (wdF (ws.drop i.toNat) a).1) else .fail else .fail
theorem ws_t (N : Nat) (ws es : List SV) (n i a : Int) (m : Nat) : loopOnceP Tryz.prog κe πF [] (ltab []) 300 e52 { e52 with s := boundT wsM ws_s N } c52 [.psl 9 ws, .int .i64 n, .int .i64 i, .qs 0 2 0 m, .int .i64 a] [(0, .seq 76 es)] =
 bif decide (i < n) then bif inB i ws.length then bif asS (ws.getD i.toNat .junk) == [] then .ret (.tup [.int .i64 1000019, .qs 0 2 0 m, flt 19 a]) [] else
  bif decide (m = es.length) then bif decide (es.length + 1 ≤ 9223372036854775807) && decide ((es.length + 1) * Tryz.prog.types[76].bytes ≤ 140737488355328) then
   wsN N ws (es ++ [.agg [.str (asS (ws.getD i.toNat .junk)), .int .i64 a]]) n (w64 (i + 1)) (w64 (a + w64 (((asS (ws.getD i.toNat .junk)).length : Int) + 1))) (es.length + 1)
  else .fail else .fail else .fail
 else .ret (.tup [.int .i64 2, .qs 0 2 0 m, .junk]) [] := by kernel_rfl
end Go.Proofs.YtpelignoebgkbaaGreatDoor
/- Scripts: the words of a line, known. -/
namespace Go.Proofs.YtpelignoebgkbaaGreatDoor
open Go.Am
set_option maxRecDepth 100000
theorem b116 : decide (Tryz.prog.types[76].bytes ≤ 1000) = true := by kernel_rfl
theorem ws_exit {es : List SV} : ChainL Tryz.prog [(0, .seq 76 es)] (.tup [.int .i64 2, .qs 0 2 0 es.length, .junk]) [] (.tup [.int .i64 2, .qs 1 2 0 es.length, .junk]) [(0, none), (1, some (.seq 76 es))] := by
 refine .ren ⟨0, 1, by simp, by simp [namesS, namesL], fun x c hx => ?_, rfl, fun x => ?_⟩
 · simp only [updF] at hx
   have := HpL_get_some _ _ _ hx
   simp only [List.mem_cons, Prod.mk.injEq, List.not_mem_nil, or_false] at this
   obtain ⟨_, rfl⟩ := this
   simp [namesC]
 · match x with
   | 0 => rfl | 1 => rfl
   | x + 2 => simp only [updF, HpL.get, show ¬ (x + 2 = 1) by omega, show ¬ (x + 2 = 0) by omega, if_false, show Nat.beq 0 (x + 2) = false from nb_f (by omega), cond_false, Option.map_none]
theorem ws_raise {es : List SV} {a : Int} {m : Nat} : ChainL Tryz.prog [(0, .seq 76 es)] (.tup [.int .i64 1000019, .qs 0 2 0 m, flt 19 a]) [] (.tup [.int .i64 1000019, .junk, flt 19 a]) [(0, none)] := by
 refine .told ⟨1000019, [.qs 0 2 0 m, flt 19 a], [.junk, flt 19 a], rfl, rfl, .cons (fun _ _ _ _ _ _ => .junk) (.cons .rfl' .nil), fun x c' hx => ?_⟩
 match x with
 | 0 => simp [updF, HpL.get] at hx
 | x + 1 => simp only [updF, HpL.get, show ¬ (x + 1 = 0) by omega, if_false, show Nat.beq 0 (x + 1) = false from nb_f (by omega), cond_false] at hx; cases hx
theorem lenS_drop {ws : List SV} {k : Nat} (h : k < ws.length) : lenS (ws.drop k) = (asS (ws.getD k .junk)).length + 1 + lenS (ws.drop (k + 1)) := by
 rw [getD_cons' h, lenS]
theorem ws_valid : ValidLP Tryz.prog [] e52 := loopP_valid5 (T := ltab []) (fuel := 300) (c := c52) (μ := wsM) mixTry lokp_nil (show fillC (ltab []) c52 = c52 by kernel_rfl) (by
 intro N args H v' ups' hbt hr
 unfold e52 ws_s at hr
 simp only [] at hr
 split at hr
 · rename_i ws n i m a es
   rw [crun_ite] at hr
   cases hc : dec (wdOk ws n i a m es) with
   | false => rw [hc] at hr; cases hr
   | true =>
    rw [hc, cond_true] at hr
    obtain ⟨rfl, i0, i1, rfl, mi, nl, a0, al⟩ := dec_iff.1 hc
    have hN : Nat.blt ((ws.length : Int) - i).toNat (N + 1) = true := hbt
    rw [Nat.blt_eq] at hN
    refine ⟨κe, πF, κeOk, πFok, ?_⟩
    have ht := ws_t N ws es ws.length i a es.length
    obtain ⟨k, rfl⟩ := Int.eq_ofNat_of_zero_le i0
    have hk : ((k : Nat) : Int).toNat = k := rfl
    rw [hk] at hr ht al
    by_cases hi : (k : Int) < ws.length
    · have hkl : k < ws.length := by omega
      have hld := lenS_drop hkl
      rw [decide_eq_true hi, cond_true, inB_ok (by omega) (by omega), cond_true] at ht
      rw [getD_cons' hkl, wdF] at hr
      cases he : asS (ws.getD k .junk) == [] with
      | true =>
       rw [he, cond_true] at ht hr
       refine ⟨_, _, congrArg crun ht, ?_⟩
       simp only [wdZ, wdB, Option.isSome, Option.getD_some, crun, if_true] at hr
       cases hr
       exact ws_raise
      | false =>
       rw [he, cond_false] at ht hr
       have hb := of_decide_eq_true b116
       have hb2 : (es.length + 1) * Tryz.prog.types[76].bytes ≤ (es.length + 1) * 1000 := Nat.mul_le_mul_left _ hb
       have e1 : w64 (((asS (ws.getD k .junk)).length : Int) + 1) = ((asS (ws.getD k .junk)).length : Int) + 1 := w64_id (by omega) (by omega)
       rw [decide_eq_true rfl, cond_true, decide_eq_true (show es.length + 1 ≤ 9223372036854775807 by omega), decide_eq_true (show (es.length + 1) * Tryz.prog.types[76].bytes ≤ 140737488355328 by omega), Bool.and_self, cond_true, e1,
        show w64 (a + (((asS (ws.getD k .junk)).length : Int) + 1)) = a + (((asS (ws.getD k .junk)).length : Int) + 1) from w64_id (by omega) (by omega), show w64 ((k : Int) + 1) = ((k + 1 : Nat) : Int) from (w64_id (by omega) (by omega)).trans (by omega)] at ht
       unfold wsN at ht
       rw [show Nat.blt ((ws.length : Int) - ((k + 1 : Nat) : Int)).toNat N = true by rw [Nat.blt_eq]; omega, cond_true, dec_iff.2 ⟨rfl, by omega, by omega, by simp, by omega, nl, by omega, by rw [show ((k + 1 : Nat) : Int).toNat = k + 1 from rfl]; omega⟩, cond_true, show ((k + 1 : Nat) : Int).toNat = k + 1 from rfl] at ht
       refine ⟨v', ups', (congrArg crun ht).trans ?_, .same fun _ => rfl⟩
       rw [crun_cond]
       unfold wdZ at hr
       rw [crun_ite] at hr
       simp only [List.append_assoc, List.singleton_append]
       exact hr
    · rw [decide_eq_false hi, cond_false] at ht
      have : ws.drop k = [] := List.drop_eq_nil_of_le (by omega)
      rw [this] at hr
      refine ⟨_, _, congrArg crun ht, ?_⟩
      simp only [wdF, wdZ, Option.isSome, List.append_nil, crun, Bool.false_eq_true, if_false, wdG] at hr
      cases hr
      exact ws_exit
 · cases hr)
abbrev fs52 : List (Option (Nat × Nat)) := [none, none, none, some (76, 2), none]
noncomputable def e52j : LEnt := { e52 with s := inN fs52 ws_s }
theorem ws_in : ValidLP Tryz.prog [] e52j := loopP_inN ws_valid (fs := fs52)
noncomputable abbrev T52 : LTab := ltab [("w", e52j)]
noncomputable abbrev m52 : Code := markC [(4, "w")] body52
theorem fill52 : Tryz.f34.body = some (fillC T52 m52) := by kernel_rfl
noncomputable abbrev κS : Nat → Option CSumm := tbl [(21, split_s)]
theorem κSok : KOk Tryz.prog κS := tbl_cons split_k ok0
noncomputable def words_b : CSumm := bodyX Tryz.prog κS πF T52 300 Tryz.f34 m52
theorem words_k0 : KnownX Tryz.prog 34 words_b := knownX_of_body noNumTry mixTry κSok πFok (lokp_cons ws_in lokp_nil) Tryz.func34 fill52 (fuel := 300) (fun _ _ _ _ h => h)
theorem words_t (s : List UInt8) : words_b [.str s] [] = bif decide (s.length ≤ 1000000) then bif dec (wdOk ((spl 32 s).map SV.str) ((spl 32 s).map SV.str).length 0 0 0 []) then
  bif (wdF (((spl 32 s).map SV.str).drop (0 : Int).toNat) 0).2.isSome then .ret (.tup [.bool false, flt 19 ((wdF (((spl 32 s).map SV.str).drop (0 : Int).toNat) 0).2.getD 0)]) []
  else .ret (.tup [.bool true, .qs 0 2 0 ([] ++ (wdF (((spl 32 s).map SV.str).drop (0 : Int).toNat) 0).1).length]) [(0, some (.seq 76 ([] ++ (wdF (((spl 32 s).map SV.str).drop (0 : Int).toNat) 0).1)))]
 else .fail else .fail := by kernel_rfl
end Go.Proofs.YtpelignoebgkbaaGreatDoor
/- Scripts: the words of a line, plainly. -/
namespace Go.Proofs.YtpelignoebgkbaaGreatDoor
open Go.Am
set_option maxRecDepth 100000
def wsv (p : List UInt8 × Int) : SV := .agg [.str p.1, .int .i64 p.2]
def wordsF : List (List UInt8) → Int → List (List UInt8 × Int) × Option Int
 | [], _ => ([], none)
 | w :: ws, a => if w = [] then ([], some a) else ((w, a) :: (wordsF ws (a + (w.length + 1))).1, (wordsF ws (a + (w.length + 1))).2)
theorem wdF_eq : ∀ (l : List (List UInt8)) (a : Int), wdF (l.map SV.str) a = ((wordsF l a).1.map wsv, (wordsF l a).2)
 | [], _ => rfl
 | w :: l, a => by
  simp only [List.map_cons, wdF, wordsF]
  have e : asS (SV.str w) = w := rfl
  rw [e]
  by_cases h : w = []
  · subst h; simp
  · rw [show (w == []) = false by simpa using h, cond_false, if_neg h, wdF_eq l]
    rfl
theorem splR_lenS (c : Int) : ∀ (s cur : List UInt8), lenS ((splR c s cur).map SV.str) = s.length + cur.length + 1
 | [], cur => by simp [splR, lenS, asS]
 | x :: xs, cur => by
  rw [splR]
  cases ((x.toNat : Int) == c) with
  | true =>
   rw [cond_true, List.map_cons, lenS, splR_lenS c xs []]
   simp [asS]; omega
  | false =>
   rw [cond_false, splR_lenS c xs]
   simp; omega
theorem splR_len (c : Int) : ∀ (s cur : List UInt8), (splR c s cur).length ≤ s.length + 1
 | [], cur => by simp [splR]
 | x :: xs, cur => by
  rw [splR]
  cases ((x.toNat : Int) == c) with
  | true => rw [cond_true, List.length_cons, List.length_cons]; have := splR_len c xs []; omega
  | false => rw [cond_false, List.length_cons]; have := splR_len c xs (cur ++ [x]); omega
def words (s : List UInt8) : List (List UInt8 × Int) × Option Int := wordsF (spl 32 s) 0
noncomputable def words_s : CSumm := fun args H => match args, H with
 | [.str s], [] => .ite (decide (s.length ≤ 1000000)) (.ite (words s).2.isSome (.ret (.tup [.bool false, flt 19 ((words s).2.getD 0)]) []) (.ret (.tup [.bool true, .psl 76 ((words s).1.map wsv)]) [])) .fail
 | _, _ => .fail
theorem words_k : KnownX Tryz.prog 34 words_s := knownX_told words_k0 (by
 intro args H b v' ups' h
 unfold words_s at h
 split at h
 · rename_i s
   rw [crun_ite, cond_eq_ite] at h
   split at h
   · rename_i hc
     have hs := of_decide_eq_true hc
     have ht := words_t s
     have hl := splR_len 32 s []
     have hl2 := splR_lenS 32 s []
     have hd : ((spl 32 s).map SV.str).drop (0 : Int).toNat = (spl 32 s).map SV.str := rfl
     rw [hd, decide_eq_true hs, cond_true, dec_iff.2 ⟨rfl, Int.le_refl _, by omega, rfl, by simp, by unfold spl; simp; omega, Int.le_refl _, by rw [hd]; unfold spl; simp at hl2; omega⟩, cond_true, wdF_eq] at ht
     rw [crun_ite] at h
     unfold words at h
     cases hq : (wordsF (spl 32 s) 0).2.isSome with
     | true =>
      rw [hq, cond_true] at h ht
      cases h
      exact ⟨_, _, congrArg crun ht, .inl ⟨rfl, rfl⟩⟩
     | false =>
      rw [hq, cond_false] at h ht
      cases h
      refine ⟨_, _, congrArg crun ht, .inr (.inl ⟨0, 76, _, rfl, .qs rfl, fun x c' hx => ?_⟩)⟩
      simp [updF, HpL.get] at hx
   · cases h
 · cases h)
end Go.Proofs.YtpelignoebgkbaaGreatDoor
