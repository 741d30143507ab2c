/- AddrCalls: Number and decimal answer alike. -/
import Derived.Test.YtjjfggahllnafaaGreatDoorPart5
import Derived.Test.YtjjfggahllnafaaGreatDoorMachine7
set_option linter.unusedVariables false
set_option linter.unusedSimpArgs false
namespace Go.Proofs.YtjjfggahllnafaaGreatDoor
open Go.Am
set_option maxRecDepth 100000
theorem nu_dec {l : Int} (h0 : 0 ≤ l) (h1 : l ≤ 255) (s : List UInt8) : (nuV l s).2 = (decF l s).2 ∧ ((decF l s).2 = true → (nuV l s).1 = (decF l s).1) := by
 have hd := nu_dg (l := l) s 0 (Int.le_refl _) h0
 cases s with
 | nil => exact ⟨rfl, fun h => by cases h⟩
 | cons c cs =>
  have hz : z1 (c :: cs) = (c == 48 && decide ((c :: cs).length > 1)) := by
   unfold z1
   by_cases g : (c :: cs).length > 1
   · rw [decide_eq_true g, decide_eq_true (show ((c :: cs).length : Int) > 1 by omega), cond_true, Bool.and_true]
     show ((c.toNat : Int) == 48) = (c == 48)
     rw [Bool.eq_iff_iff, beq_iff_eq, beq_iff_eq]
     constructor
     · intro e; apply UInt8.toNat_inj.1; show c.toNat = 48; omega
     · intro e; rw [e]; rfl
   · rw [decide_eq_false g, decide_eq_false (show ¬ ((c :: cs).length : Int) > 1 by omega), cond_false, Bool.and_false]
  unfold decF nuV
  rw [hz, show ((c :: cs) == ([] : List UInt8)) = false from rfl, Bool.false_or, show (c :: cs).getD 0 0 = c from rfl]
  cases hq : (c == 48 && decide ((c :: cs).length > 1)) with
  | true => rw [Bool.or_true, cond_true, cond_true]; exact ⟨rfl, fun h => by cases h⟩
  | false =>
   rw [Bool.or_false, cond_false]
   unfold dgV
   rw [hd]
   by_cases hl : (c :: cs).length > 10
   · rw [decide_eq_true hl, cond_true]
     have hc : c ≠ 48 := by
      intro e
      rw [e, decide_eq_true (show (48 :: cs).length > 1 by rw [e] at hl; omega)] at hq
      cases hq
     cases hn : nuS (c :: cs) 0 with
     | none => exact ⟨rfl, fun h => by cases h⟩
     | some w =>
      have hw : 255 < w := by
       unfold nuS at hn
       cases hg : decide (48 ≤ c.toNat) && decide (c.toNat ≤ 57) with
       | false => rw [hg] at hn; cases hn
       | true =>
        rw [hg, cond_true] at hn
        simp only [Bool.and_eq_true, decide_eq_true_eq] at hg
        have hne : c.toNat ≠ 48 := fun e => hc (UInt8.toNat_inj.1 e)
        have hp := nuS_pow cs _ w (by omega) hn
        have hl2 : 10 ≤ cs.length := by simp only [List.length_cons] at hl; omega
        have h10 : (10 : Int) ^ 10 ≤ 10 ^ cs.length := by
         have : (10 : Nat) ^ 10 ≤ 10 ^ cs.length := Nat.pow_le_pow_right (by decide) hl2
         exact_mod_cast this
        have hp10 : (10 : Int) ^ 10 = 10000000000 := by decide
        have h3 : 1 * (10 : Int) ^ cs.length ≤ (10 * 0 + ((c.toNat : Int) - 48)) * 10 ^ cs.length := Int.mul_le_mul_of_nonneg_right (by omega) (Int.pow_nonneg (by decide))
        omega
      simp only []
      rw [decide_eq_false (show ¬ w ≤ l by omega)]
      exact ⟨rfl, fun h => by cases h⟩
   · rw [decide_eq_false hl, cond_false]
     cases hn : nuS (c :: cs) 0 with
     | none => exact ⟨rfl, fun h => by cases h⟩
     | some w =>
      simp only []
      by_cases hw : w ≤ l
      · rw [decide_eq_true hw]
        exact ⟨by simp, fun _ => rfl⟩
      · rw [decide_eq_false hw]
        exact ⟨rfl, fun h => by cases h⟩
end Go.Proofs.YtjjfggahllnafaaGreatDoor
/- AddrCalls: the reference's Split: its loop. -/
namespace Go.Proofs.YtjjfggahllnafaaGreatDoor
open Go.Am
set_option maxRecDepth 100000
def splR (c : Int) : List UInt8 → List UInt8 → List (List UInt8)
 | [], cur => [cur]
 | x :: xs, cur => bif (x.toNat : Int) == c then cur :: splR c xs [] else splR c xs (cur ++ [x])
def sltOk (s : List UInt8) (es : List SV) (m : Nat) (fr i : Int) : Prop := s.length ≤ 1000000 ∧ m = es.length ∧ 0 ≤ fr ∧ fr ≤ i ∧ i ≤ s.length + 1 ∧ es.length ≤ i
def spE (s : List UInt8) (c : Int) (es : List SV) (fr i : Int) : List SV := bif decide (i ≤ s.length) then es ++ (splR c (s.drop i.toNat) ((s.drop fr.toNat).take (i.toNat - fr.toNat))).map SV.str else es
noncomputable def body72 : Code := Tryz.f72.body.getD .skip
noncomputable def c72 : Code := (loopAt 4 body72).getD .skip
noncomputable def sp_s : CSumm := fun args H => match args, H with
 | [.str s, .int .u8 c, .qs 0 1 0 m, .int .i64 fr, .int .i64 i], [(0, .seq 9 es)] => .ite (dec (sltOk s es m fr i))
   (.ret (.tup [.int .i64 2, .qs 1 1 0 (spE s c es fr i).length]) [(0, none), (1, some (.seq 9 (spE s c es fr i)))]) .fail
 | _, _ => .fail
def spM : List SV → HpL → Nat
 | [.str s, _, _, _, .int _ i], _ => ((s.length : Int) + 1 - i).toNat
 | _, _ => 0
noncomputable def e72 : LEnt := { ins := [0, 1, 5, 6, 7], outs := [5], keep := [], size := 35, code := c72, s := sp_s }
noncomputable def spN (N : Nat) (s : List UInt8) (c : Int) (es : List SV) (m : Nat) (fr i : Int) : CTree :=
 bif Nat.blt ((s.length : Int) + 1 - i).toNat N then bif dec (sltOk s es m fr i) then
  .ret (.tup [.int .i64 2, .qs 1 1 0 (spE s c es fr i).length]) [(0, none), (1, some (.seq 9 (spE s c es fr i)))] else .fail else .fail
noncomputable def lenD (k : Nat) : Bool := decide (k ≤ 9223372036854775807) && decide (k * Tryz.prog.types[9].bytes ≤ 140737488355328)
noncomputable def spA (N : Nat) (s : List UInt8) (c : Int) (es : List SV) (m : Nat) (fr i : Int) : CTree :=
 bif decide (0 ≤ fr) && decide (fr ≤ i) && decide (i ≤ s.length) then bif decide (m = es.length) then bif lenD (es.length + 1) then
  spN N s c (es ++ [.str ((s.drop fr.toNat).take (i.toNat - fr.toNat))]) (es.length + 1) (w64 (i + 1)) (w64 (i + 1)) else .fail else .fail else .fail
theorem sp_t (N : Nat) (s : List UInt8) (c : Int) (es : List SV) (m : Nat) (fr i : Int) : loopOnce Tryz.prog κ0 (fun _ => false) (ltab []) true 300 e72 { e72 with s := boundT spM sp_s N } c72 [.str s, .int .u8 c, .qs 0 1 0 m, .int .i64 fr, .int .i64 i] [(0, .seq 9 es)] =
 bif decide (i ≤ s.length) then bif i == s.length then spA N s c es m fr i else bif inB i s.length then bif ((s.getD i.toNat 0).toNat : Int) == c then spA N s c es m fr i else spN N s c es m fr (w64 (i + 1)) else .fail
 else .ret (.tup [.int .i64 2, .qs 0 1 0 m]) [] := by kernel_rfl
end Go.Proofs.YtjjfggahllnafaaGreatDoor
/- AddrCalls: the reference's Split: its loop, valid. -/
namespace Go.Proofs.YtjjfggahllnafaaGreatDoor
open Go.Am
set_option maxRecDepth 100000
theorem b9 : decide (Tryz.prog.types[9].bytes ≤ 1000) = true := by kernel_rfl
theorem lenD_t {k : Nat} (h : k ≤ 100000000000) : lenD k = true := by
 have h1 := of_decide_eq_true b9
 unfold lenD
 have h2 : k * Tryz.prog.types[9].bytes ≤ 100000000000 * 1000 := Nat.mul_le_mul h h1
 rw [decide_eq_true (by omega), decide_eq_true (by omega)]; rfl
theorem spx_exit {es : List SV} : ChainL Tryz.prog [(0, .seq 9 es)] (.tup [.int .i64 2, .qs 0 1 0 es.length]) [] (.tup [.int .i64 2, .qs 1 1 0 es.length]) [(0, none), (1, some (.seq 9 es))] := by
 refine .ren ⟨0, 1, by simp, by simp [namesS, namesL], fun x c hx => ?_, rfl, fun x => ?_⟩
 · simp only [updF] at hx
   have := HpL_get_some _ _ _ hx
   simp only [List.mem_cons, Prod.mk.injEq, List.not_mem_nil, or_false] at this
   obtain ⟨_, rfl⟩ := this
   simp [namesC]
 · match x with
   | 0 => rfl | 1 => rfl
   | x + 2 => simp only [updF, HpL.get, show ¬ (x + 2 = 1) by omega, show ¬ (x + 2 = 0) by omega, if_false, show Nat.beq 0 (x + 2) = false from nb_f (by omega), cond_false, Option.map_none]
theorem take_more {s : List UInt8} {a b : Nat} (h : a ≤ b) (hb : b < s.length) : (s.drop a).take (b - a) ++ [s.getD b 0] = (s.drop a).take (b + 1 - a) := by
 rw [show b + 1 - a = (b - a) + 1 by omega, List.take_add_one, List.getElem?_drop, show a + (b - a) = b by omega, List.getD_eq_getElem?_getD, List.getElem?_eq_getElem hb]; rfl
theorem spE_hit {s : List UInt8} {c : Int} {es : List SV} {fr i : Nat} (hi : i < s.length) (hc : (((s.getD i 0).toNat : Int) == c) = true) :
  spE s c es fr i = spE s c (es ++ [.str ((s.drop fr).take (i - fr))]) ((i + 1 : Nat) : Int) ((i + 1 : Nat) : Int) := by
 unfold spE
 rw [decide_eq_true (show ((i : Nat) : Int) ≤ s.length by omega), decide_eq_true (show ((i + 1 : Nat) : Int) ≤ s.length by omega), cond_true, cond_true]
 show es ++ (splR c (s.drop i) ((s.drop fr).take (i - fr))).map SV.str = _ ++ (splR c (s.drop (i + 1)) ((s.drop (i + 1)).take (i + 1 - (i + 1)))).map SV.str
 rw [getD_cons hi, splR, hc, cond_true, Nat.sub_self, List.take_zero, List.map_cons, List.append_assoc, List.singleton_append]
theorem spE_end {s : List UInt8} {c : Int} {es : List SV} {fr : Nat} :
  spE s c es fr (s.length : Nat) = spE s c (es ++ [.str ((s.drop fr).take (s.length - fr))]) ((s.length + 1 : Nat) : Int) ((s.length + 1 : Nat) : Int) := by
 unfold spE
 rw [decide_eq_true (show ((s.length : Nat) : Int) ≤ s.length by omega), decide_eq_false (show ¬ ((s.length + 1 : Nat) : Int) ≤ s.length by omega), cond_true, cond_false]
 show es ++ (splR c (s.drop s.length) ((s.drop fr).take (s.length - fr))).map SV.str = _
 rw [List.drop_length]; rfl
theorem spE_miss {s : List UInt8} {c : Int} {es : List SV} {fr i : Nat} (hf : fr ≤ i) (hi : i < s.length) (hc : (((s.getD i 0).toNat : Int) == c) = false) :
  spE s c es fr i = spE s c es fr ((i + 1 : Nat) : Int) := by
 unfold spE
 rw [decide_eq_true (show ((i : Nat) : Int) ≤ s.length by omega), decide_eq_true (show ((i + 1 : Nat) : Int) ≤ s.length by omega), cond_true, cond_true]
 show es ++ (splR c (s.drop i) ((s.drop fr).take (i - fr))).map SV.str = es ++ (splR c (s.drop (i + 1)) ((s.drop fr).take (i + 1 - fr))).map SV.str
 rw [getD_cons hi, splR, hc, cond_false, take_more hf hi]
theorem spA_ok {N : Nat} {s : List UInt8} {c : Int} {es : List SV} {fr i : Nat} (hs : s.length ≤ 1000000) (hf : fr ≤ i) (hi : i ≤ s.length) (he : es.length ≤ i) (hN : s.length + 1 - (i + 1) < N) :
  spA N s c es es.length fr i = .ret (.tup [.int .i64 2, .qs 1 1 0 (spE s c (es ++ [.str ((s.drop fr).take (i - fr))]) ((i + 1 : Nat) : Int) ((i + 1 : Nat) : Int)).length]) [(0, none), (1, some (.seq 9 (spE s c (es ++ [.str ((s.drop fr).take (i - fr))]) ((i + 1 : Nat) : Int) ((i + 1 : Nat) : Int))))] := by
 unfold spA
 rw [slB_ok (a := (fr : Int)) (b := (i : Int)) (n := (s.length : Int)) (by omega) (by omega) (by omega), cond_true, decide_eq_true rfl, cond_true, lenD_t (by omega), cond_true, show w64 ((i : Int) + 1) = ((i + 1 : Nat) : Int) from (w64_id (by omega) (by omega)).trans (by omega)]
 unfold spN
 rw [show Nat.blt ((s.length : Int) + 1 - ((i + 1 : Nat) : Int)).toNat N = true by rw [Nat.blt_eq]; omega, cond_true, dec_iff.2 ⟨hs, by rw [List.length_append, List.length_singleton], by omega, by omega, by omega, by rw [List.length_append, List.length_singleton]; omega⟩, cond_true]
 rfl
theorem sp_valid : ValidL Tryz.prog e72 := loop_valid5 (T := ltab []) (sp := true) (fuel := 300) (c := c72) (μ := spM) mixTry ltab_nil (show fillC (ltab []) c72 = c72 by kernel_rfl) (by
 intro N args H v' ups' hbt hr
 unfold e72 sp_s at hr
 simp only [] at hr
 split at hr
 · rename_i s c m fr i es
   rw [crun_ite] at hr
   cases hc : dec (sltOk s es m fr i) with
   | false => rw [hc] at hr; cases hr
   | true =>
    rw [hc, cond_true] at hr
    obtain ⟨hs, rfl, f0, f1, i1, he⟩ := dec_iff.1 hc
    have hN : Nat.blt ((s.length : Int) + 1 - i).toNat (N + 1) = true := hbt
    rw [Nat.blt_eq] at hN
    refine ⟨κ0, fun _ => false, κ0Ok, ?_⟩
    have ht := sp_t N s c es es.length fr i
    obtain ⟨f, rfl⟩ := Int.eq_ofNat_of_zero_le f0
    obtain ⟨k, rfl⟩ := Int.eq_ofNat_of_zero_le (show 0 ≤ i by omega)
    by_cases hi : (k : Int) ≤ s.length
    · rw [decide_eq_true hi, cond_true] at ht
      by_cases h2 : k = s.length
      · subst h2
        rw [show (((s.length : Nat) : Int) == (s.length : Int)) = true by simp, cond_true, spA_ok hs (by omega) (Nat.le_refl _) (by omega) (by omega)] at ht
        rw [spE_end] at hr
        exact ⟨v', ups', (congrArg crun ht).trans hr, .same fun _ => rfl⟩
      · rw [show ((k : Int) == (s.length : Int)) = false by rw [beq_eq_false_iff_ne]; omega, cond_false, inB_ok (by omega) (by omega), cond_true, show ((k : Nat) : Int).toNat = k from rfl] at ht
        cases h3 : ((s.getD k 0).toNat : Int) == c with
        | true =>
         rw [h3, cond_true, spA_ok hs (by omega) (by omega) (by omega) (by omega)] at ht
         rw [spE_hit (by omega) h3] at hr
         exact ⟨v', ups', (congrArg crun ht).trans hr, .same fun _ => rfl⟩
        | false =>
         rw [h3, cond_false, show w64 ((k : Int) + 1) = ((k + 1 : Nat) : Int) from (w64_id (by omega) (by omega)).trans (by omega)] at ht
         unfold spN at ht
         rw [show Nat.blt ((s.length : Int) + 1 - ((k + 1 : Nat) : Int)).toNat N = true by rw [Nat.blt_eq]; omega, cond_true, dec_iff.2 ⟨hs, rfl, by omega, by omega, by omega, by omega⟩, cond_true] at ht
         rw [spE_miss (by omega) (by omega) h3] at hr
         exact ⟨v', ups', (congrArg crun ht).trans hr, .same fun _ => rfl⟩
    · rw [decide_eq_false hi, cond_false] at ht
      have : spE s c es f k = es := by unfold spE; rw [decide_eq_false hi, cond_false]
      rw [this] at hr
      cases hr
      exact ⟨_, _, congrArg crun ht, spx_exit⟩
 · cases hr)
end Go.Proofs.YtjjfggahllnafaaGreatDoor
/- AddrCalls: the reference's Split, known; what it is by what stands before the first of a byte. -/
namespace Go.Proofs.YtjjfggahllnafaaGreatDoor
open Go.Am
set_option maxRecDepth 100000
abbrev fs72 : List (Option (Nat × Nat)) := [none, none, some (9, 1), none, none]
noncomputable def e72j : LEnt := { e72 with s := inN fs72 sp_s }
theorem sp_in : ValidL Tryz.prog e72j := loop_inN sp_valid (fs := fs72)
noncomputable abbrev T72 : LTab := ltab [("s", e72j)]
noncomputable abbrev m72 : Code := markC [(4, "s")] body72
noncomputable def spl_b : CSumm := bodyCL Tryz.prog κ0 (fun _ => false) T72 true 300 Tryz.f72 m72
theorem spl_k0 : Known Tryz.prog 72 spl_b := ⟨⟨Tryz.f72, Tryz.func72, noNum_at noNumTry Tryz.func72, rfl⟩, bodyL_valid κ0Ok mixTry (ltab_cons sp_in ltab_nil) Tryz.func72 (show Tryz.f72.body = some (fillC T72 m72) by kernel_rfl)⟩
theorem spl_t (s : List UInt8) (c : Int) : spl_b [.str s, .int .u8 c] [] = bif dec (sltOk s [] 0 0 0) then .ret (.qs 0 1 0 (spE s c [] 0 0).length) [(0, some (.seq 9 (spE s c [] 0 0)))] else .fail := by kernel_rfl
def spl (c : Int) (s : List UInt8) : List (List UInt8) := splR c s []
noncomputable def spl_s : CSumm := fun args H => match args, H with
 | [.str s, .int .u8 c], [] => .ite (decide (s.length ≤ 1000000)) (.ret (.psl 9 ((spl c s).map SV.str)) []) .fail
 | _, _ => .fail
theorem spl_k : Known Tryz.prog 72 spl_s := known_told spl_k0 (by
 intro args H v' ups' h
 unfold spl_s at h
 split at h
 · rename_i s c
   rw [crun_ite, cond_eq_ite] at h
   split at h
   · rename_i hc
     have hs := of_decide_eq_true hc
     have ht := spl_t s c
     have he : spE s c [] 0 0 = (spl c s).map SV.str := by
      unfold spE spl
      rw [decide_eq_true (by omega), cond_true]
      rfl
     rw [dec_iff.2 ⟨hs, rfl, Int.le_refl _, Int.le_refl _, by omega, by simp⟩, cond_true, he] at ht
     cases h
     refine ⟨_, _, congrArg crun ht, .inl ⟨0, 9, _, rfl, .qs rfl, fun x c' hx => ?_⟩⟩
     simp [updF, HpL.get] at hx
   · cases h
 · cases h)
theorem splR_cut (c : UInt8) : ∀ (s cur : List UInt8), splR (c.toNat : Int) s cur = (cur ++ (cutF c s).1) :: (bif (cutF c s).2.2 then splR (c.toNat : Int) (cutF c s).2.1 [] else [])
 | [], cur => by unfold splR cutF; simp
 | x :: xs, cur => by
  rw [splR, cutF]
  have : (((x.toNat : Nat) : Int) == (c.toNat : Int)) = (x == c) := by
   rw [Bool.eq_iff_iff, beq_iff_eq, beq_iff_eq]
   constructor
   · intro e; apply UInt8.toNat_inj.1; omega
   · intro e; rw [e]
  rw [this]
  cases x == c with
  | true => simp
  | false =>
   rw [cond_false, cond_false, splR_cut c xs]
   simp
theorem spl_cut (c : UInt8) (s : List UInt8) : spl (c.toNat : Int) s = (cutF c s).1 :: (bif (cutF c s).2.2 then spl (c.toNat : Int) (cutF c s).2.1 else []) := splR_cut c s []
theorem spF_spl (rd : List UInt8 → Int × Bool) (c : UInt8) : ∀ (m : Nat) (s : List UInt8), spF rd c m s = bif decide ((spl (c.toNat : Int) s).length = m) && (spl (c.toNat : Int) s).all (fun t => (rd t).2) then some ((spl (c.toNat : Int) s).map fun t => (rd t).1) else none
 | 0, s => by rw [spl_cut]; rfl
 | m + 1, s => by
  have ih := spF_spl rd c m (cutF c s).2.1
  unfold spF
  rw [ih, spl_cut c s]
  cases h1 : (rd (cutF c s).1).2 with
  | false => simp [h1]
  | true =>
   cases h2 : (cutF c s).2.2 with
   | false =>
    cases m with
    | zero => simp [h1]
    | succ m => simp
   | true =>
    simp only [Bool.not_true, cond_false, cond_true, List.length_cons, Nat.add_right_cancel_iff, List.all_cons, h1, Bool.true_and, List.map_cons]
    cases hq : decide ((spl (c.toNat : Int) (cutF c s).2.1).length = m) && (spl (c.toNat : Int) (cutF c s).2.1).all (fun t => (rd t).2) <;> rfl
end Go.Proofs.YtjjfggahllnafaaGreatDoor
/- AddrCalls: the reference's ParseIP: its loop. -/
namespace Go.Proofs.YtjjfggahllnafaaGreatDoor
open Go.Am
set_option maxRecDepth 100000
noncomputable abbrev κip := tbl [(72, spl_s), (73, num_s)]
theorem ipOk : KOk Tryz.prog κip := tbl_cons spl_k (tbl_cons num_k ok0)
def ipS (v n : Int) : Int := w32 (w32 (v * 256) + w32 n)
def ipL : List SV → Int → Option Int
 | [], v => some v
 | x :: xs, v => bif (nuV 255 (asS x)).2 then ipL xs (ipS v (nuV 255 (asS x)).1) else none
def ilOk (es : List SV) (v i : Int) : Prop := es.length ≤ 2000000 ∧ 0 ≤ i ∧ i ≤ es.length
noncomputable def body54 : Code := Tryz.f54.body.getD .skip
noncomputable def c54 : Code := (loopAt 4 body54).getD .skip
noncomputable def il_s : CSumm := fun args H => match args, H with
 | [.psl 9 es, .int .u32 v, .int .i64 i], [] => .ite (dec (ilOk es v i)) (.ite (ipL (es.drop i.toNat) v).isSome (.ret (.tup [.int .i64 2, .junk, .junk, .psl 9 es, .int .u32 ((ipL (es.drop i.toNat) v).getD 0)]) [])
   (.ret (.tup [.int .i64 1, .int .u32 0, .int .i64 19, .junk, .junk]) [])) .fail
 | _, _ => .fail
def ilM : List SV → HpL → Nat
 | [.psl _ es, _, .int _ i], _ => ((es.length : Int) - i).toNat
 | _, _ => 0
noncomputable def e54 : LEnt := { ins := [4, 5, 6], outs := [2, 3, 4, 5], keep := [], size := 36, code := c54, s := il_s }
noncomputable def ilN (N : Nat) (es : List SV) (v i : Int) : CTree := bif Nat.blt ((es.length : Int) - i).toNat N then bif dec (ilOk es v i) then bif (ipL (es.drop i.toNat) v).isSome then (.ret (.tup [.int .i64 2, .junk, .junk, .psl 9 es, .int .u32 ((ipL (es.drop i.toNat) v).getD 0)]) [])
      else (.ret (.tup [.int .i64 1, .int .u32 0, .int .i64 19, .junk, .junk]) []) else .fail else .fail
noncomputable def ilX (N : Nat) (es : List SV) (v i : Int) (x : SV) : CTree := bif !(nuV 255 (asS x)).2 then .ret (.tup [.int .i64 1, .int .u32 0, .int .i64 19, .psl 9 es, .int .u32 v]) [] else
 ilN N es (ipS v (nuV 255 (asS x)).1) (w64 (i + 1))
theorem il_t (N : Nat) (es : List SV) (v i : Int) : loopOnce Tryz.prog (openT Tryz.prog κip 300 5) (fun _ => false) (ltab []) true 300 e54 { e54 with s := boundT ilM il_s N } c54 [.psl 9 es, .int .u32 v, .int .i64 i] [] =
 bif decide (i < es.length) then bif inB i es.length then ilX N es v i (es.getD i.toNat .junk) else .fail else .ret (.tup [.int .i64 2, .junk, .junk, .psl 9 es, .int .u32 v]) [] := by kernel_rfl
end Go.Proofs.YtjjfggahllnafaaGreatDoor
/- AddrCalls: the reference's ParseIP, known. -/
namespace Go.Proofs.YtjjfggahllnafaaGreatDoor
open Go.Am
set_option maxRecDepth 100000
theorem getV_cons {s : List SV} {k : Nat} (h : k < s.length) : s.drop k = s.getD k .junk :: s.drop (k + 1) := by
 rw [List.drop_eq_getElem_cons h, List.getD_eq_getElem?_getD, List.getElem?_eq_getElem h]; rfl
theorem il_valid : ValidL Tryz.prog e54 := loop_valid5 (T := ltab []) (sp := true) (fuel := 300) (c := c54) (μ := ilM) mixTry ltab_nil (show fillC (ltab []) c54 = c54 by kernel_rfl) (by
 intro N args H v' ups' hbt h
 unfold e54 il_s at h
 simp only [] at h
 split at h
 · rename_i es v i
   rw [crun_ite] at h
   cases hc : dec (ilOk es v i) with
   | false => rw [hc] at h; cases h
   | true =>
    rw [hc, cond_true, crun_ite] at h
    obtain ⟨hl, i0, i1⟩ := dec_iff.1 hc
    have hN : Nat.blt ((es.length : Int) - i).toNat (N + 1) = true := hbt
    rw [Nat.blt_eq] at hN
    refine ⟨openT Tryz.prog κip 300 5, fun _ => false, openT_ok noNumTry mixTry ipOk 300 5, ?_⟩
    have ht := il_t N es v i
    obtain ⟨k, rfl⟩ := Int.eq_ofNat_of_zero_le i0
    have hk : ((k : Nat) : Int).toNat = k := rfl
    rw [hk] at h ht
    by_cases hi : (k : Int) < es.length
    · rw [decide_eq_true hi, cond_true, inB_ok (by omega) (by omega), cond_true] at ht
      rw [getV_cons (show k < es.length by omega), ipL] at h
      generalize es.getD k .junk = x at *
      unfold ilX at ht
      cases hq : (nuV 255 (asS x)).2 with
      | false =>
       rw [hq, cond_false] at h
       rw [hq, Bool.not_false, cond_true] at ht
       cases h
       exact ⟨_, _, congrArg crun ht, .told ⟨1, [.int .u32 0, .int .i64 19, .psl 9 es, .int .u32 v], [.int .u32 0, .int .i64 19, .junk, .junk], rfl, rfl, .cons .rfl' (.cons .rfl' (CoL.junk Tryz.prog [.psl 9 es, .int .u32 v])), fun y c' hy => ⟨c', hy, .rfl'⟩⟩⟩
      | true =>
       rw [hq, cond_true] at h
       rw [hq, Bool.not_true, cond_false, show w64 ((k : Int) + 1) = ((k + 1 : Nat) : Int) from (w64_id (by omega) (by omega)).trans (by omega)] at ht
       unfold ilN at ht
       rw [show Nat.blt ((es.length : Int) - ((k + 1 : Nat) : Int)).toNat N = true by rw [Nat.blt_eq]; omega, cond_true, dec_iff.2 ⟨hl, by omega, by omega⟩, cond_true, show ((k + 1 : Nat) : Int).toNat = k + 1 from rfl] at ht
       refine ⟨v', ups', (congrArg crun ht).trans ?_, .same fun _ => rfl⟩
       rw [crun_cond]
       exact h
    · rw [decide_eq_false hi, cond_false] at ht
      have : es.drop k = [] := List.drop_eq_nil_of_le (by omega)
      rw [this] at h
      exact ⟨v', ups', (congrArg crun ht).trans h, .same fun _ => rfl⟩
 · cases h)
noncomputable abbrev T54 : LTab := ltab [("i", e54)]
noncomputable abbrev m54 : Code := markC [(4, "i")] body54
noncomputable def pir_b : CSumm := bodyCL Tryz.prog (openT Tryz.prog κip 300 5) (fun _ => false) T54 true 300 Tryz.f54 m54
theorem pir_k0 : Known Tryz.prog 54 pir_b := ⟨⟨Tryz.f54, Tryz.func54, noNum_at noNumTry Tryz.func54, rfl⟩, bodyL_valid (openT_ok noNumTry mixTry ipOk 300 5) mixTry (ltab_cons il_valid ltab_nil) Tryz.func54 (show Tryz.f54.body = some (fillC T54 m54) by kernel_rfl)⟩
noncomputable def pirC (es : List SV) : CTree := bif dec (ilOk es 0 0) then bif (ipL (es.drop (0 : Int).toNat) 0).isSome then bif (es.length : Int) != 4 then .ret (.tup [.int .u32 0, .int .i64 19]) [] else .ret (.tup [.int .u32 ((ipL (es.drop (0 : Int).toNat) 0).getD 0), .int .i64 0]) []
 else .ret (.tup [.int .u32 0, .int .i64 19]) [] else .fail
theorem pir_t (s : List UInt8) : pir_b [.str s] [] = bif decide (s.length ≤ 1000000) then pirC ((spl 46 s).map SV.str) else .fail := by kernel_rfl
theorem dec_rng {l : Int} (h0 : 0 ≤ l) (s : List UInt8) (h : (decF l s).2 = true) : 0 ≤ (decF l s).1 ∧ (decF l s).1 ≤ l := by
 unfold decF at h ⊢
 cases z1 s with
 | true => exact ⟨Int.le_refl _, h0⟩
 | false =>
  rw [cond_false]
  unfold dgV
  cases hq : dgS 10 l s 0 with
  | none => exact ⟨Int.le_refl _, h0⟩
  | some w => exact dgS_rng (by decide) (by decide) s 0 w (Int.le_refl _) h0 hq
theorem ipL_some : ∀ (L : List (List UInt8)) (v : Int), (ipL (L.map SV.str) v).isSome = L.all (fun t => (decF 255 t).2)
 | [], v => rfl
 | t :: L, v => by
  have h := (nu_dec (l := 255) (by decide) (by decide) t).1
  show (bif (nuV 255 t).2 then ipL (L.map SV.str) (ipS v (nuV 255 t).1) else none).isSome = _
  rw [h, List.all_cons]
  cases (decF 255 t).2 with
  | false => rfl
  | true => rw [cond_true, Bool.true_and]; exact ipL_some L _
theorem w32_id' {n : Int} (h0 : 0 ≤ n) (h1 : n < 4294967296) : w32 n = n := by
 show IntKind.u32.wrap n = n
 simp [IntKind.wrap, IntKind.bits, IntKind.signed]; omega
theorem ipS_v {v n : Int} (v0 : 0 ≤ v) (v1 : v < 16777216) (n0 : 0 ≤ n) (n1 : n ≤ 255) : ipS v n = v * 256 + n := by
 unfold ipS
 rw [w32_id' (n := v * 256) (by omega) (by omega), w32_id' (n := n) (by omega) (by omega), w32_id' (by omega) (by omega)]
theorem ipL_four {a b c d : List UInt8} (h : ([a, b, c, d] : List (List UInt8)).all (fun t => (decF 255 t).2) = true) : (ipL ([a, b, c, d].map SV.str) 0).getD 0 = ipO ([a, b, c, d].map fun t => (decF 255 t).1) := by
 simp only [List.all_cons, List.all_nil, Bool.and_true, Bool.and_eq_true] at h
 obtain ⟨ha, hb, hc, hd⟩ := h
 have na := nu_dec (l := 255) (by decide) (by decide) a
 have nb := nu_dec (l := 255) (by decide) (by decide) b
 have nc := nu_dec (l := 255) (by decide) (by decide) c
 have nd := nu_dec (l := 255) (by decide) (by decide) d
 obtain ⟨a0, a1⟩ := dec_rng (l := 255) (by decide) a ha
 obtain ⟨b0, b1⟩ := dec_rng (l := 255) (by decide) b hb
 obtain ⟨c0, c1⟩ := dec_rng (l := 255) (by decide) c hc
 obtain ⟨d0, d1⟩ := dec_rng (l := 255) (by decide) d hd
 have e : ipL ([a, b, c, d].map SV.str) 0 = some (ipS (ipS (ipS (ipS 0 (decF 255 a).1) (decF 255 b).1) (decF 255 c).1) (decF 255 d).1) := by
  show (bif (nuV 255 a).2 then (bif (nuV 255 b).2 then (bif (nuV 255 c).2 then (bif (nuV 255 d).2 then some (ipS (ipS (ipS (ipS 0 (nuV 255 a).1) (nuV 255 b).1) (nuV 255 c).1) (nuV 255 d).1) else none) else none) else none) else none) = _
  rw [na.1, nb.1, nc.1, nd.1, ha, hb, hc, hd, na.2 ha, nb.2 hb, nc.2 hc, nd.2 hd]
  rfl
 rw [e]
 show ipS (ipS (ipS (ipS 0 (decF 255 a).1) (decF 255 b).1) (decF 255 c).1) (decF 255 d).1 = ipO [(decF 255 a).1, (decF 255 b).1, (decF 255 c).1, (decF 255 d).1]
 rw [ipO_v a0 a1 b0 b1 c0 c1 d0 d1, ipS_v (v := 0) (by omega) (by omega) a0 a1, ipS_v (by omega) (by omega) b0 b1, ipS_v (by omega) (by omega) c0 c1, ipS_v (by omega) (by omega) d0 d1]
 omega
theorem pipV_spl (s : List UInt8) : pipV s = bif decide ((spl 46 s).length = 4) && (spl 46 s).all (fun t => (decF 255 t).2) then (ipO ((spl 46 s).map fun t => (decF 255 t).1), 0) else (0, 19) := by
 unfold pipV
 rw [spF_spl, show ((UInt8.toNat 46 : Nat) : Int) = 46 from rfl]
 cases decide ((spl 46 s).length = 4) && (spl 46 s).all (fun t => (decF 255 t).2) <;> rfl
theorem splR_len (c : Int) : ∀ (s cur : List UInt8), (splR c s cur).length ≤ s.length + 1
 | [], cur => Nat.le_refl _
 | x :: xs, cur => by
  unfold splR
  cases (x.toNat : Int) == c with
  | true => have := splR_len c xs []; simp only [cond_true, List.length_cons]; omega
  | false => have := splR_len c xs (cur ++ [x]); simp only [cond_false, List.length_cons]; omega
theorem pirC_ok {s : List UInt8} (hs : s.length ≤ 1000000) : pirC ((spl 46 s).map SV.str) = .ret (.tup [.int .u32 (pipV s).1, .int .i64 (pipV s).2]) [] := by
 have hl : (spl 46 s).length ≤ s.length + 1 := splR_len 46 s []
 unfold pirC
 rw [dec_iff.2 ⟨by rw [List.length_map]; omega, Int.le_refl _, by omega⟩, cond_true, show ((spl 46 s).map SV.str).drop (0 : Int).toNat = (spl 46 s).map SV.str from rfl, ipL_some, pipV_spl, List.length_map]
 cases ha : (spl 46 s).all (fun t => (decF 255 t).2) with
 | false => rw [Bool.and_false]; rfl
 | true =>
  rw [cond_true, Bool.and_true]
  by_cases h4 : (spl 46 s).length = 4
  · rw [decide_eq_true h4, cond_true, show (((spl 46 s).length : Int) != 4) = false by rw [h4]; rfl, cond_false]
    have hf : (ipL ((spl 46 s).map SV.str) 0).getD 0 = ipO ((spl 46 s).map fun t => (decF 255 t).1) := by
     revert ha h4
     generalize spl 46 s = L
     intro ha h4
     match L, h4 with
     | [a, b, c, d], _ => exact ipL_four ha
    rw [hf]
  · rw [decide_eq_false h4, cond_false, show (((spl 46 s).length : Int) != 4) = true by rw [bne_iff_ne]; omega, cond_true]
theorem pipr_k : Known Tryz.prog 54 pip_s := pir_k0.weak (by
 intro args H v ups h
 unfold pip_s at h
 split at h
 · rename_i s
   rw [crun_ite, cond_eq_ite] at h
   split at h
   · rename_i hc
     refine (congrArg crun (pir_t s)).trans ?_
     rw [hc, cond_true, pirC_ok (of_decide_eq_true hc)]
     exact h
   · cases h
 · cases h)
end Go.Proofs.YtjjfggahllnafaaGreatDoor
/- AddrCalls: the reference's ParsePrefix, its tree. -/
namespace Go.Proofs.YtjjfggahllnafaaGreatDoor
open Go.Am
set_option maxRecDepth 100000
noncomputable abbrev κrp := tbl [(72, spl_s), (54, pip_s), (73, num_s), (36, msk_s)]
theorem rpOk : KOk Tryz.prog κrp := tbl_cons spl_k (tbl_cons pipr_k (tbl_cons num_k (tbl_cons mskr_k ok0)))
def anI (a b : Int) : Int := w32 (BitVec.ofInt IntKind.u32.bits a &&& ~~~ BitVec.ofInt IntKind.u32.bits b).toNat
noncomputable def rpX (a b : List UInt8) : CTree := bif (bif (pipV a).2 != 0 then true else !(nuV 32 b).2) then zP 19 else bif vld (nuV 32 b).1 then bif anI (pipV a).1 (mskI (nuV 32 b).1) != 0 then zP 3 else
 .ret (.tup [.agg [.int .u32 (pipV a).1, .int .i64 (nuV 32 b).1], .int .i64 0]) [] else .fail
noncomputable def rpC (es : List SV) : CTree := bif (es.length : Int) != 2 then zP 19 else bif inB 0 es.length then bif decide ((asS (es.getD (0 : Int).toNat .junk)).length ≤ 1000000) then bif inB 1 es.length then
 rpX (asS (es.getD (0 : Int).toNat .junk)) (asS (es.getD (1 : Int).toNat .junk)) else .fail else .fail else .fail
theorem rp_t (s : List UInt8) : opn κrp Tryz.f56 [.str s] [] = bif decide (s.length ≤ 1000000) then rpC ((spl 47 s).map SV.str) else .fail := by kernel_rfl
end Go.Proofs.YtjjfggahllnafaaGreatDoor
