/- The reference's ParseMAC: its groups. -/
import Derived.Test.YtpelignoebgkbaaDoorPart7
import Derived.Test.YtpelignoebgkbaaDoorPart6
set_option linter.unusedVariables false
set_option linter.unusedSimpArgs false
namespace Go.Proofs.YtpelignoebgkbaaDoor
open Go.Am
set_option maxRecDepth 100000
/- AddrCalls: the reference's ParseMAC, ParseESI, told. -/
theorem drop_get {s t : List UInt8} {j : Nat} (h : s.drop j = t) (d : Nat) : s.getD (j + d) 0 = t.getD d 0 := by
 subst h
 simp [List.getD_eq_getElem?_getD, List.getElem?_drop]
theorem ixC_ok {s : List UInt8} {i : Int} {j : Nat} {K : Int → CTree} (hi : i = (j : Int)) (h : j < s.length) : ixC s i K = K (s.getD j 0).toNat := by
 subst hi
 unfold ixC
 rw [inB_ok (by omega) (by omega), cond_true]
 rfl
theorem ixD_ok {s : List UInt8} {i : Int} {j : Nat} {K : Int → CTree} (hi : i = (j : Int)) (h : j < s.length) : ixD s i K = K (dgR (s.getD j 0).toNat) := by
 unfold ixD
 have := (s.getD j 0).toNat_lt
 rw [ixC_ok hi h, decide_eq_true ⟨by omega, by omega⟩, cond_true]
def mtO (o : Option (List Int)) (vs : List Int) (F : CTree) (K : List Int → CTree) : CTree := match o with | some l => K (vs ++ l) | none => F
theorem two_dig {a b : UInt8} {F X : CTree} : (bif decide (dgR a.toNat < 0) then F else bif decide (dgR b.toNat < 0) then F else X) = bif prB a b then X else F := by
 unfold prB
 by_cases h : dgR a.toNat < 0
 · rw [decide_eq_true h, decide_eq_false (show ¬ 0 ≤ dgR a.toNat by omega)]; rfl
 · rw [decide_eq_false h, decide_eq_true (show 0 ≤ dgR a.toNat by omega), cond_false, Bool.true_and]
   by_cases h2 : dgR b.toNat < 0
   · rw [decide_eq_true h2, decide_eq_false (show ¬ 0 ≤ dgR b.toNat by omega)]; rfl
   · rw [decide_eq_false h2, decide_eq_true (show 0 ≤ dgR b.toNat by omega)]; rfl
theorem paR_v {s : List UInt8} {F : CTree} {K : List Int → CTree} (hs : s.length ≤ 1000) : ∀ (k n : Nat) (vs : List Int) (c a b : UInt8) (r : List UInt8), s.drop (3 * n + 2) = c :: a :: b :: r → r.length = 3 * k →
  paR s F (k + 1) ((n + 1 : Nat) : Int) vs K = mtO (bif c == 58 then grF (k + 1) (a :: b :: r) else none) vs F K
 | k, n, vs, c, a, b, r, hd, hr => by
  have hl : s.length = 3 * n + 2 + (3 + r.length) := by
   have := congrArg List.length hd
   simp only [List.length_drop, List.length_cons] at this
   omega
  have e1 : s.getD (3 * n + 3) 0 = a := drop_get hd 1
  have e2 : s.getD (3 * n + 4) 0 = b := drop_get hd 2
  have e0 : s.getD (3 * n + 2) 0 = c := drop_get hd 0
  have w3 : w64 (3 * ((n + 1 : Nat) : Int)) = ((3 * n + 3 : Nat) : Int) := by
   rw [show w64 (3 * ((n + 1 : Nat) : Int)) = 3 * ((n + 1 : Nat) : Int) from w64_id (by omega) (by omega)]; omega
  have w4 : w64 (((3 * n + 3 : Nat) : Int) + 1) = ((3 * n + 4 : Nat) : Int) := by
   rw [show w64 (((3 * n + 3 : Nat) : Int) + 1) = ((3 * n + 3 : Nat) : Int) + 1 from w64_id (by omega) (by omega)]; omega
  have w2 : w64 (((3 * n + 3 : Nat) : Int) - 1) = ((3 * n + 2 : Nat) : Int) := by
   rw [show w64 (((3 * n + 3 : Nat) : Int) - 1) = ((3 * n + 3 : Nat) : Int) - 1 from w64_id (by omega) (by omega)]; omega
  have wi : w64 (((n + 1 : Nat) : Int) + 1) = ((n + 1 + 1 : Nat) : Int) := by
   rw [show w64 (((n + 1 : Nat) : Int) + 1) = ((n + 1 : Nat) : Int) + 1 from w64_id (by omega) (by omega)]; omega
  unfold paR
  rw [w3, w4, w2, wi, ixD_ok rfl (by omega), ixD_ok rfl (by omega), e1, e2, two_dig, decide_eq_true (show ((n + 1 : Nat) : Int) > 0 by omega), cond_true, ixC_ok rfl (by omega), e0]
  have hc : (((c.toNat : Nat) : Int) != 58) = !(c == 58) := by
   rw [Bool.eq_iff_iff, bne_iff_ne, Bool.not_eq_true', beq_eq_false_iff_ne]
   constructor
   · intro h e; subst e; exact h rfl
   · intro h e
     apply h
     apply UInt8.toNat_inj.1
     show c.toNat = 58
     omega
  rw [hc]
  cases h58 : c == 58 with
  | false => simp only [Bool.not_false, cond_true, cond_false]; cases prB a b <;> rfl
  | true =>
   simp only [Bool.not_true, cond_false, cond_true]
   cases hp : prB a b with
   | false =>
    rw [cond_false]
    cases k with
    | zero =>
     have : r = [] := List.length_eq_zero_iff.1 (by omega)
     subst this
     unfold grF; rw [hp]; rfl
    | succ k =>
     match r, hr with
     | x :: r', _ => unfold grF; rw [hp]; rfl
   | true =>
    rw [cond_true]
    cases k with
    | zero =>
     have : r = [] := List.length_eq_zero_iff.1 (by omega)
     subst this
     unfold grF; rw [hp]; rfl
    | succ k =>
     match r, hr with
     | x :: y :: z :: r', hr =>
      simp only [List.length_cons] at hr
      have hd' : s.drop (3 * (n + 1) + 2) = x :: y :: z :: r' := by
       have := congrArg (List.drop 3) hd
       rw [List.drop_drop] at this
       simpa [show 3 * (n + 1) + 2 = 3 * n + 2 + 3 by omega, Nat.add_comm] using this
      have ih := paR_v (K := K) (F := F) hs k (n + 1) (vs ++ [prV a b]) x y z r' hd' (by omega)
      refine ih.trans ?_
      show _ = mtO (grF (k + 2) (a :: b :: x :: y :: z :: r')) vs F K
      rw [show grF (k + 2) (a :: b :: x :: y :: z :: r') = bif prB a b && x == 58 then (grF (k + 1) (y :: z :: r')).map (prV a b :: ·) else none from rfl, hp, Bool.true_and]
      cases x == 58 with
      | false => rfl
      | true =>
       rw [cond_true, cond_true]
       cases grF (k + 1) (y :: z :: r') with
       | none => rfl
       | some l => simp [mtO]
end Go.Proofs.YtpelignoebgkbaaDoor
/- The reference's ParseMAC, known. -/
namespace Go.Proofs.YtpelignoebgkbaaDoor
open Go.Am
set_option maxRecDepth 100000
/- AddrCalls: the reference's ParseMAC, ParseESI, told. -/
theorem sp_eq (k : Nat) (s : List UInt8) : spF hexF 58 k s = grF k s := by
 cases h : grF k s with
 | some l => exact gr_sp h
 | none =>
  cases h2 : spF hexF 58 k s with
  | none => rfl
  | some l => rw [(sp_gr h2).1] at h; cases h
theorem paC_v {s : List UInt8} {F : CTree} {K : List Int → CTree} {k : Nat} (hk : k ≤ 9) : paC s (k + 1) F K = mtO (spF hexF 58 (k + 1) s) [] F K := by
 have hw : w64 (w64 (3 * ((k + 1 : Nat) : Int)) - 1) = ((3 * k + 2 : Nat) : Int) := by
  rw [show w64 (3 * ((k + 1 : Nat) : Int)) = 3 * ((k + 1 : Nat) : Int) from w64_id (by omega) (by omega), show w64 (3 * ((k + 1 : Nat) : Int) - 1) = 3 * ((k + 1 : Nat) : Int) - 1 from w64_id (by omega) (by omega)]
  omega
 unfold paC
 rw [hw]
 cases hl : ((s.length : Int) != ((3 * k + 2 : Nat) : Int)) with
 | true =>
  rw [cond_true]
  cases h2 : spF hexF 58 (k + 1) s with
  | none => rfl
  | some l =>
   have := (sp_gr h2).2
   have hne : (s.length : Int) ≠ ((3 * k + 2 : Nat) : Int) := by simpa using hl
   omega
 | false =>
  have hlen : s.length = 3 * k + 2 := by
   have : (s.length : Int) = ((3 * k + 2 : Nat) : Int) := by simpa using hl
   omega
  rw [cond_false, sp_eq]
  match s, hlen with
  | a :: b :: r, hlen =>
   have hr : r.length = 3 * k := by simp only [List.length_cons] at hlen; omega
   unfold paR
   rw [show w64 (3 * 0) = ((0 : Nat) : Int) from by decide, show w64 (((0 : Nat) : Int) + 1) = ((1 : Nat) : Int) from by decide, ixD_ok rfl (by simp), ixD_ok rfl (by simp), decide_eq_false (show ¬ (0 : Int) > 0 by omega), cond_false]
   rw [show (a :: b :: r).getD 0 0 = a from rfl, show (a :: b :: r).getD 1 0 = b from rfl, two_dig]
   show (bif prB a b then paR (a :: b :: r) F k (w64 (0 + 1)) [prV a b] K else F) = _
   rw [show w64 (0 + 1) = ((0 + 1 : Nat) : Int) from by decide]
   cases hp : prB a b with
   | false =>
    cases k with
    | zero =>
     have : r = [] := List.length_eq_zero_iff.1 (by omega)
     subst this
     unfold grF; rw [hp]; rfl
    | succ k =>
     match r, hr with
     | x :: r', _ => unfold grF; rw [hp]; rfl
   | true =>
    rw [cond_true]
    cases k with
    | zero =>
     have : r = [] := List.length_eq_zero_iff.1 (by omega)
     subst this
     unfold grF; rw [hp]; rfl
    | succ k =>
     match r, hr with
     | x :: y :: z :: r', hr =>
      simp only [List.length_cons] at hr
      have ih := paR_v (s := a :: b :: x :: y :: z :: r') (K := K) (F := F) (by simp only [List.length_cons]; omega) k 0 [prV a b] x y z r' rfl (by omega)
      refine ih.trans ?_
      rw [show grF (k + 1 + 1) (a :: b :: x :: y :: z :: r') = bif prB a b && x == 58 then (grF (k + 1) (y :: z :: r')).map (prV a b :: ·) else none from rfl, hp, Bool.true_and]
      cases x == 58 with
      | false => rfl
      | true =>
       rw [cond_true, cond_true]
       cases grF (k + 1) (y :: z :: r') <;> rfl
theorem sp_bytes : ∀ {k : Nat} {s : List UInt8} {l : List Int}, grF k s = some l → bytesI l ∧ l.length = k
 | 0, _, _, h => by cases h
 | 1, [a, b], l, h => by
  unfold grF at h
  cases hp : prB a b with
  | false => rw [hp] at h; cases h
  | true =>
   rw [hp] at h; cases h
   obtain ⟨-, -, -, -, h4, h5⟩ := prV_v hp
   exact ⟨fun x hx => by simp at hx; subst hx; exact ⟨h4, h5⟩, rfl⟩
 | m + 2, a :: b :: c :: r, l, h => by
  unfold grF at h
  cases hp : prB a b && c == 58 with
  | false => rw [hp] at h; cases h
  | true =>
   rw [hp, cond_true] at h
   simp only [Bool.and_eq_true] at hp
   obtain ⟨-, -, -, -, h4, h5⟩ := prV_v hp.1
   obtain ⟨t, ht, rfl⟩ := Option.map_eq_some_iff.1 h
   obtain ⟨g1, g2⟩ := sp_bytes ht
   refine ⟨fun x hx => ?_, by simp [g2]⟩
   rcases List.mem_cons.1 hx with rfl | hx
   · exact ⟨h4, h5⟩
   · exact g1 x hx
 | 1, [], _, h => by cases h
 | 1, [_], _, h => by cases h
 | 1, _ :: _ :: _ :: _, _, h => by cases h
 | _ + 2, [], _, h => by cases h
 | _ + 2, [_], _, h => by cases h
 | _ + 2, [_, _], _, h => by cases h
theorem plMr_eq {l : List Int} (hb : bytesI l) (hl : l.length = 6) : plMr l = macO l := by
 match l, hl with
 | [a, b, c, d, e, f], _ =>
  obtain ⟨a0, a1⟩ := hb a (by simp); obtain ⟨b0, b1⟩ := hb b (by simp); obtain ⟨c0, c1⟩ := hb c (by simp); obtain ⟨d0, d1⟩ := hb d (by simp); obtain ⟨e0, e1⟩ := hb e (by simp); obtain ⟨f0, f1⟩ := hb f (by simp)
  rw [macO_v a0 a1 b0 b1 c0 c1 d0 d1 e0 e1 f0 f1]
  show plO (plO (plO (plO (plO (plO 0 a) b) c) d) e) f = _
  rw [plO_v (a := 0) (b := a) (by omega) a0 (by omega), plO_v (b := b) (by omega) b0 (by omega), plO_v (b := c) (by omega) c0 (by omega), plO_v (b := d) (by omega) d0 (by omega), plO_v (b := e) (by omega) e0 (by omega), plO_v (b := f) (by omega) f0 (by omega)]
  omega
theorem pmx_k : Known Tryd.prog 16 pmac_s := (openKnown (tbl_cons dr_k ok0) Tryd.func16 rfl).weak (by
 intro args H v ups h
 unfold pmac_s at h
 split at h
 · rename_i s
   rw [crun_ite, cond_eq_ite] at h
   split at h
   · rw [← h]
     refine (congrArg crun (pmx_t s)).trans ?_
     rw [paC_v (k := 5) (by omega)]
     unfold pmacV
     cases hq : spF hexF 58 6 s with
     | none => rfl
     | some l =>
      rw [sp_eq] at hq
      obtain ⟨hb, hl⟩ := sp_bytes hq
      simp only [mtO, List.nil_append]
      rw [plMr_eq hb hl]
   · cases h
 · cases h)
end Go.Proofs.YtpelignoebgkbaaDoor
/- Scripts: what was written is held against what was read: the law's loop. -/
namespace Go.Proofs.YtpelignoebgkbaaDoor
open Go.Am
set_option maxRecDepth 100000
noncomputable abbrev κB : Nat → Option CSumm := tbl [(16, pmac_s)]
theorem κBok : KOk Tryd.prog κB := tbl_cons pmx_k ok0
def bkF (m : Int) : List SV → List SV → Bool
 | [], _ => true
 | _, [] => true
 | x :: xs, y :: ys => bif (bif !(asS x == asS y) then (bif (pmacV (asS x)).2 != 0 then true else (pmacV (asS x)).1 != m) else false) then false else bkF m xs ys
def bkOk (xs ys : List SV) (i : Int) (cs : List SV) : Prop := xs.length = ys.length ∧ 0 ≤ i ∧ i ≤ xs.length ∧ xs.length ≤ 1000000 ∧ (∀ v ∈ xs, (asS v).length ≤ 1000000) ∧ cs = (asCmd cs).cs
noncomputable def body5 : Code := Tryd.f5.body.getD .skip
noncomputable def c5 : Code := (loopAt 22 body5).getD .skip
noncomputable def bk_s : CSumm := fun args H => match args, H with
 | [.psl 9 xs, .psl 9 ys, .int .i64 i, .ptr 0 0], [(0, .cells 38 cs)] => .ite (dec (bkOk xs ys i cs)) (.ite (bkF (asCmd cs).m (xs.drop i.toNat) (ys.drop i.toNat)) (.ret (.tup [.int .i64 2, .junk]) []) (.ret (.tup [.int .i64 1, .bool false]) [])) .fail
 | _, _ => .fail
def bkM : List SV → HpL → Nat
 | .psl _ xs :: _ :: .int _ i :: _, _ => ((xs.length : Int) - i).toNat
 | _, _ => 0
noncomputable def e5 : LEnt := { ins := [15, 16, 17, 10], outs := [4], keep := [], size := 133, code := c5, s := bk_s }
noncomputable def bkN (N : Nat) (xs ys : List SV) (i : Int) (x : Cmd) : CTree := bif Nat.blt ((xs.length : Int) - i).toNat N then bif dec (bkOk xs ys i x.cs) then bif bkF x.m (xs.drop i.toNat) (ys.drop i.toNat) then .ret (.tup [.int .i64 2, .junk]) [] else .ret (.tup [.int .i64 1, .bool false]) [] else .fail else .fail
theorem bk_t (N : Nat) (xs ys : List SV) (i : Int) (x : Cmd) : loopOnce Tryd.prog κB (fun _ => false) (ltab []) true 300 e5 { e5 with s := boundT bkM bk_s N } c5 [.psl 9 xs, .psl 9 ys, .int .i64 i, .ptr 0 0] [(0, .cells 38 x.cs)] =
 bif decide (i < xs.length) then bif inB i xs.length then bif decide ((asS (xs.getD i.toNat .junk)).length ≤ 1000000) then bif inB i xs.length then bif inB i ys.length then
  bif !(asS (xs.getD i.toNat .junk) == asS (ys.getD i.toNat .junk)) then bif (pmacV (asS (xs.getD i.toNat .junk))).2 != 0 then .ret (.tup [.int .i64 1, .bool false]) [] else bif (pmacV (asS (xs.getD i.toNat .junk))).1 != x.m then .ret (.tup [.int .i64 1, .bool false]) [] else bkN N xs ys (w64 (i + 1)) x else bkN N xs ys (w64 (i + 1)) x else .fail else .fail else .fail else .fail
 else .ret (.tup [.int .i64 2, .junk]) [] := by kernel_rfl
theorem getD_consB {es : List SV} {k : Nat} (h : k < es.length) : es.drop k = es.getD k .junk :: es.drop (k + 1) := by
 rw [List.drop_eq_getElem_cons h]
 simp [List.getD, h]
theorem bk_valid : ValidL Tryd.prog e5 := loop_valid5 (T := ltab []) (sp := true) (fuel := 300) (c := c5) (μ := bkM) mixTry ltab_nil (show fillC (ltab []) c5 = c5 by kernel_rfl) (by
 intro N args H v' ups' hbt hr
 unfold e5 bk_s at hr
 simp only [] at hr
 split at hr
 · rename_i xs ys i cs
   rw [crun_ite] at hr
   cases hc : dec (bkOk xs ys i cs) with
   | false => rw [hc] at hr; cases hr
   | true =>
    rw [hc, cond_true] at hr
    obtain ⟨hl, i0, i1, nl, hw, hcs⟩ := dec_iff.1 hc
    generalize asCmd cs = x at hcs hr
    subst hcs
    have hN : Nat.blt ((xs.length : Int) - i).toNat (N + 1) = true := hbt
    rw [Nat.blt_eq] at hN
    refine ⟨κB, fun _ => false, κBok, ?_⟩
    have ht := bk_t N xs ys i x
    obtain ⟨k, rfl⟩ := Int.eq_ofNat_of_zero_le i0
    have hk : ((k : Nat) : Int).toNat = k := rfl
    rw [hk] at hr ht
    refine ⟨v', ups', (congrArg crun ht).trans ?_, .same fun _ => rfl⟩
    by_cases hi : (k : Int) < xs.length
    · have hm : xs.getD k .junk ∈ xs := by
        have : k < xs.length := by omega
        simp [List.getD, this]
      rw [decide_eq_true hi, cond_true, inB_ok (by omega) (by omega), cond_true, decide_eq_true (hw _ hm), cond_true, inB_ok (by omega) (by omega), cond_true, cond_true]
      rw [getD_consB (es := xs) (by omega), getD_consB (es := ys) (by omega), bkF] at hr
      have next : crun (bif bkF x.m (xs.drop (k + 1)) (ys.drop (k + 1)) then (CTree.ret (.tup [.int .i64 2, .junk]) []) else .ret (.tup [.int .i64 1, .bool false]) []) = some (v', ups') → crun (bkN N xs ys (w64 ((k : Int) + 1)) x) = some (v', ups') := by
       intro h
       rw [show w64 ((k : Int) + 1) = ((k + 1 : Nat) : Int) from (w64_id (by omega) (by omega)).trans (by omega)]
       unfold bkN
       rw [show Nat.blt ((xs.length : Int) - ((k + 1 : Nat) : Int)).toNat N = true by rw [Nat.blt_eq]; omega, cond_true, dec_iff.2 ⟨hl, by omega, by omega, nl, hw, rfl⟩, cond_true, show ((k + 1 : Nat) : Int).toNat = k + 1 from rfl]
       exact h
      cases h1 : (asS (xs.getD k .junk) == asS (ys.getD k .junk)) with
      | true =>
       rw [h1] at hr
       rw [Bool.not_true, cond_false]
       rw [Bool.not_true, cond_false, cond_false, crun_ite] at hr
       exact next (by rw [crun_cond]; exact hr)
      | false =>
       rw [h1] at hr
       rw [Bool.not_false, cond_true]
       rw [Bool.not_false, cond_true] at hr
       cases h2 : ((pmacV (asS (xs.getD k .junk))).2 != 0) with
       | true =>
        rw [h2, cond_true, cond_true, crun_ite] at hr
        rw [cond_true]
        exact hr
       | false =>
        rw [h2, cond_false] at hr
        rw [cond_false]
        cases h3 : ((pmacV (asS (xs.getD k .junk))).1 != x.m) with
        | true =>
         rw [h3, cond_true, crun_ite] at hr
         rw [cond_true]
         exact hr
        | false =>
         rw [h3, cond_false, crun_ite] at hr
         rw [cond_false]
         exact next (by rw [crun_cond]; exact hr)
    · rw [decide_eq_false hi, cond_false]
      have : xs.drop k = [] := List.drop_eq_nil_of_le (by omega)
      rw [this, bkF, crun_ite] at hr
      exact hr
 · cases hr)
noncomputable abbrev T5 : LTab := ltab [("b", e5)]
noncomputable abbrev m5 : Code := markC [(22, "b")] body5
noncomputable abbrev TB : List (Nat × CSumm) := [(6, constS (.bool true)), (7, light_s), (9, spl_s), (14, text_s), (15, line_s)]
theorem okB : KOk Tryd.prog (tbl TB) := tbl_cons lives_k (tbl_cons light_k (tbl_cons spl_k (tbl_cons text_k (tbl_cons line_k ok0))))
noncomputable def back_b : CSumm := bodyCL Tryd.prog (tbl TB) (fun _ => false) T5 true 300 Tryd.f5 m5
theorem back_k0 : Known Tryd.prog 5 back_b := ⟨⟨Tryd.f5, Tryd.func5, noNum_at noNumTry Tryd.func5, rfl⟩, bodyL_valid okB mixTry (ltab_cons bk_valid ltab_nil) Tryd.func5 (show Tryd.f5.body = some (fillC T5 m5) by kernel_rfl)⟩
end Go.Proofs.YtpelignoebgkbaaDoor
/- Scripts: the law of writing and reading: its tree. -/
namespace Go.Proofs.YtpelignoebgkbaaDoor
open Go.Am
set_option maxRecDepth 100000
def rB (b : Bool) : CTree := .ret (.bool b) []
def fEq (p q : Int × Int) : Bool := p.1 == q.1 && p.2 == q.2
noncomputable def bkL (x : Cmd) (s u : List UInt8) : CTree :=
 bif decide (s.length ≤ 1000000) then bif decide (u.length ≤ 1000000) then
  bif ((((spl 32 s).map SV.str).length : Int) != ((spl 32 u).map SV.str).length) then rB false else
  bif dec (bkOk ((spl 32 s).map SV.str) ((spl 32 u).map SV.str) 0 x.cs) then bif bkF x.m (((spl 32 s).map SV.str).drop (0 : Int).toNat) (((spl 32 u).map SV.str).drop (0 : Int).toNat) then rB true else rB false else .fail
 else .fail else .fail
noncomputable def bkS (s : List UInt8) (l : Cmd × Bool × Int × Int) : CTree :=
 bif !l.2.1 then rB (bif (bif cmdEq l.1 (cmd0' 0) then decide (l.2.2.2 ≥ 0) else false) then decide (l.2.2.2 ≤ s.length) else false) else
 bif dec (l.1.cs = (asCmd l.1.cs).cs ∧ CmdOk (asCmd l.1.cs)) then
  bif okTx l.1 then bif (bif !(fEq l.2.2 (0, 0)) then true else true) then rB false else bkL l.1 s []
  else bif (bif !(fEq l.2.2 (0, 0)) then true else false) then rB false else bkL l.1 s (lineTx l.1)
 else .fail
noncomputable def bkP (s : List UInt8) : CTree := bif decide (s.length ≤ 1000000) then bkS s (lineF s) else .fail
noncomputable def bkQ (x : Cmd) (l : Cmd × Bool × Int × Int) (K : CTree) : CTree := bif (bif (bif !l.2.1 then true else !(cmdEq l.1 x)) then true else !(fEq l.2.2 (0, 0))) then rB false else K
noncomputable def bkT (x : Cmd) (s : List UInt8) : CTree :=
 bif !decide ((s.length : Int) ≤ 3000) then rB true else
 bif dec (x.cs = (asCmd x.cs).cs ∧ CmdOk (asCmd x.cs)) then
  bif okTx x then bkP s else bif decide ((lineTx x).length ≤ 1000000) then bkQ x (lineF (lineTx x)) (bkP s) else .fail
 else .fail
theorem back_t (x : Cmd) (s : List UInt8) : back_b [.agg x.cs, .str s] [] = bkT x s := by kernel_rfl
end Go.Proofs.YtpelignoebgkbaaDoor
/- Scripts: single words: what is read is what is written. -/
namespace Go.Proofs.YtpelignoebgkbaaDoor
open Go.Am
set_option maxRecDepth 100000
theorem ofNat_dig {b : UInt8} (h : 48 ≤ b.toNat) : UInt8.ofNat (48 + (b.toNat - 48)) = b := by
 rw [show 48 + (b.toNat - 48) = b.toNat by omega]
 exact UInt8.ofNat_toNat
theorem digB_iff {b : UInt8} : digB b = true ↔ 48 ≤ b.toNat ∧ b.toNat ≤ 57 := by simp [digB]
theorem accN_app {most : Int} : ∀ (cs : List UInt8) (v : Nat), 1 ≤ v → cs.all digB = true → (accN most cs v).1 = true → Lib.decDigits (accN most cs v).2.toNat = Lib.decDigits v ++ cs
 | [], v, _, _, _ => by simp [accN]
 | b :: cs, v, hv, hd, h => by
  simp only [List.all_cons, Bool.and_eq_true] at hd
  obtain ⟨h0, h1⟩ := digB_iff.1 hd.1
  unfold accN at h ⊢
  split at h
  · cases h
  · rename_i hn
    rw [if_neg hn]
    have e : (v : Int) * 10 + ((b.toNat : Int) - 48) = ((v * 10 + (b.toNat - 48) : Nat) : Int) := by omega
    rw [e] at h ⊢
    rw [accN_app cs (v * 10 + (b.toNat - 48)) (by omega) hd.2 h]
    rw [show Lib.decDigits (v * 10 + (b.toNat - 48)) = Lib.decDigits v ++ [b] by
     rw [Lib.decDigits, dif_neg (by omega), show (v * 10 + (b.toNat - 48)) / 10 = v by omega, show (v * 10 + (b.toNat - 48)) % 10 = b.toNat - 48 by omega, ofNat_dig h0]]
    simp
theorem num_back {most : Int} {w : List UInt8} (hw : w ≠ []) (h : (numV most w).1 = 0) : Lib.decDigits (numV most w).2.toNat = w := by
 unfold numV at h ⊢
 split at h
 · cases h
 · rename_i hz
   rw [if_neg hz]
   split at h
   · rename_i hd
     rw [if_pos hd]
     split at h
     · rename_i ha
       rw [if_pos ha]
       match w, hw with
       | b :: cs, _ =>
        simp only [List.all_cons, Bool.and_eq_true] at hd
        obtain ⟨h0, h1⟩ := digB_iff.1 hd.1
        simp only []
        unfold accN at ha ⊢
        split at ha
        · cases ha
        · rename_i hn
          rw [if_neg hn]
          have e : (0 : Int) * 10 + ((b.toNat : Int) - 48) = ((b.toNat - 48 : Nat) : Int) := by omega
          rw [e] at ha ⊢
          have e1 : Lib.decDigits (b.toNat - 48) = [b] := by rw [Lib.decDigits, dif_pos (by omega), ofNat_dig h0]
          cases cs with
          | nil => simpa [accN] using e1
          | cons c cs =>
           have hb : b ≠ 48 := by
            rintro rfl
            exact hz ⟨by simp, rfl⟩
           have hb2 : b.toNat ≠ 48 := fun e => hb (UInt8.toNat_inj.1 e)
           rw [accN_app (c :: cs) (b.toNat - 48) (by omega) hd.2 ha, e1]
           rfl
     · cases h
   · cases h
theorem itoa_num {most : Int} (hm : 0 ≤ most) {w : List UInt8} (hw : w ≠ []) (h : (numV most w).1 = 0) : Lib.itoa (numV most w).2 = w := by
 have hr := (numV_rng hm w).1
 unfold Lib.itoa
 rw [if_neg (by omega)]
 exact num_back hw h
theorem mac_rng {s : List UInt8} (h : (pmacV s).2 = 0) : 0 ≤ (pmacV s).1 ∧ (pmacV s).1 ≤ 281474976710655 := by
 unfold pmacV at h ⊢
 cases hq : spF hexF 58 6 s with
 | none => rw [hq] at h; cases h
 | some l =>
  obtain ⟨h1, h2, h3⟩ := pairs_back hq
  obtain ⟨a, b, c, d, e, f, rfl⟩ := len6 h3
  obtain ⟨a0, a1⟩ := h2 a (by simp); obtain ⟨b0, b1⟩ := h2 b (by simp); obtain ⟨c0, c1⟩ := h2 c (by simp); obtain ⟨d0, d1⟩ := h2 d (by simp); obtain ⟨e0, e1⟩ := h2 e (by simp); obtain ⟨f0, f1⟩ := h2 f (by simp)
  simp only []
  rw [macO_v a0 a1 b0 b1 c0 c1 d0 d1 e0 e1 f0 f1]
  omega
theorem mac_low {s : List UInt8} (h : (pmacV s).2 = 0) : (mactV (pmacV s).1).1 = s.map lowB ∧ pmacV (s.map lowB) = ((pmacV s).1, 0) := by
 have hb := mac_back h
 obtain ⟨h0, h1⟩ := mac_rng h
 refine ⟨by rw [hb], ?_⟩
 have hr := mac_rt h0 h1
 have e : mactV (pmacV s).1 = (pairsL (macL (pmacV s).1), 0) := by
  unfold mactV
  rw [decide_eq_false (by omega), cond_false]
 rw [e] at hb
 have := congrArg Prod.fst hb
 simp only at this
 rw [← this]
 exact hr
theorem all_bad : pmacV sAll = (0, 19) := by kernel_rfl
def fld : Nat → Nat
 | 0 => 0
 | 1 => 1
 | 2 => 1
 | 3 => 1
 | 4 => 2
 | 5 => 3
 | 6 => 4
 | _ => 5
def fOf (x : Cmd) : Nat → Int × Bool
 | 0 => (x.a, true)
 | 1 => (x.b, true)
 | 2 => (0, x.up)
 | 3 => (x.m, true)
 | 4 => (x.i, true)
 | 5 => (x.d, true)
 | _ => (0, true)
theorem wordTx_fld {x y : Cmd} {q : Nat} (h : fOf x (fld q) = fOf y (fld q)) : wordTx x q = wordTx y q := by
 match q with
 | 0 => simp [fld, fOf] at h; simp only [wordTx, h]
 | 1 => simp [fld, fOf] at h; simp only [wordTx, h]
 | 2 => simp [fld, fOf] at h; simp only [wordTx, h]
 | 3 => simp [fld, fOf] at h; simp only [wordTx, h]
 | 4 => simp [fld, fOf] at h; simp only [wordTx, h]
 | 5 => simp [fld, fOf] at h; simp only [wordTx, h]
 | 6 => simp [fld, fOf] at h; simp only [wordTx, h]
 | q + 7 => simp [fld, fOf] at h; simp only [wordTx, h]
theorem rdW_k (q : Nat) (w : List UInt8) (x : Cmd) : (rdW q w x).2.k = x.k := by
 unfold rdW
 split <;> (repeat' split) <;> rfl
theorem rdW_c (q : Nat) (w : List UInt8) (x : Cmd) : (rdW q w x).2.c = x.c := by
 unfold rdW
 split <;> (repeat' split) <;> rfl
theorem rdW_fld (q : Nat) (w : List UInt8) (x : Cmd) (g : Nat) (h : g ≠ fld q) : fOf (rdW q w x).2 g = fOf x g := by
 match q with
 | 0 => match g with | 0 => exact absurd rfl h | 1 => rfl | 2 => rfl | 3 => rfl | 4 => rfl | 5 => rfl | g + 6 => rfl
 | 1 => match g with | 1 => exact absurd rfl h | 0 => rfl | 2 => rfl | 3 => rfl | 4 => rfl | 5 => rfl | g + 6 => rfl
 | 2 => unfold rdW; simp only []; split <;> (match g with | 1 => exact absurd rfl h | 0 => rfl | 2 => rfl | 3 => rfl | 4 => rfl | 5 => rfl | g + 6 => rfl)
 | 3 => match g with | 1 => exact absurd rfl h | 0 => rfl | 2 => rfl | 3 => rfl | 4 => rfl | 5 => rfl | g + 6 => rfl
 | 4 => unfold rdW; simp only []; (repeat' split) <;> (match g with | 2 => exact absurd rfl h | 0 => rfl | 1 => rfl | 3 => rfl | 4 => rfl | 5 => rfl | g + 6 => rfl)
 | 5 => unfold rdW; simp only []; (repeat' split) <;> (match g with | 3 => exact absurd rfl h | 0 => rfl | 1 => rfl | 2 => rfl | 4 => rfl | 5 => rfl | g + 6 => rfl)
 | 6 => unfold rdW; simp only []; (repeat' split) <;> (match g with | 4 => exact absurd rfl h | 0 => rfl | 1 => rfl | 2 => rfl | 3 => rfl | 5 => rfl | g + 6 => rfl)
 | q + 7 => match g with | 0 => rfl | 1 => rfl | 2 => rfl | 3 => rfl | 4 => rfl | 5 => exact absurd rfl h | g + 6 => rfl
theorem lowB_all : ((List.range 256).all fun k => decide (lowB (UInt8.ofNat k) = 32 → UInt8.ofNat k = 32) && decide (lowB (UInt8.ofNat k) = 10 → UInt8.ofNat k = 10)) = true := by kernel_rfl
theorem lowB_clean {c : UInt8} (h : c ≠ 32 ∧ c ≠ 10) : lowB c ≠ 32 ∧ lowB c ≠ 10 := by
 have := List.all_eq_true.1 lowB_all c.toNat (List.mem_range.2 c.toNat_lt)
 simp only [UInt8.ofNat_toNat, Bool.and_eq_true, decide_eq_true_eq] at this
 exact ⟨fun e => h.1 (this.1 e), fun e => h.2 (this.2 e)⟩
def Clean (w : List UInt8) : Prop := w ≠ [] ∧ ∀ c ∈ w, c ≠ 32 ∧ c ≠ 10
theorem clean_low {w : List UInt8} (h : Clean w) : Clean (w.map lowB) := by
 refine ⟨fun e => h.1 (List.map_eq_nil_iff.1 e), fun c hc => ?_⟩
 obtain ⟨b, hb, rfl⟩ := List.mem_map.1 hc
 exact lowB_clean (h.2 b hb)
theorem clean_all : Clean sAll := ⟨by decide, by decide⟩
theorem rdW_back (q : Nat) {w : List UInt8} (x : Cmd) (hw : Clean w) (h : (rdW q w x).1 = 0) :
  Clean (wordTx (rdW q w x).2 q) ∧ rdW q (wordTx (rdW q w x).2 q) x = rdW q w x ∧ (wordTx (rdW q w x).2 q = w ∨ (fld q = 3 ∧ (pmacV w).2 = 0 ∧ (pmacV w).1 = (rdW q w x).2.m)) := by
 have same : wordTx (rdW q w x).2 q = w → Clean (wordTx (rdW q w x).2 q) ∧ rdW q (wordTx (rdW q w x).2 q) x = rdW q w x ∧ (wordTx (rdW q w x).2 q = w ∨ (fld q = 3 ∧ (pmacV w).2 = 0 ∧ (pmacV w).1 = (rdW q w x).2.m)) :=
  fun e => ⟨by rw [e]; exact hw, by rw [e], .inl e⟩
 match q with
 | 0 => exact same (itoa_num (by omega) hw.1 h)
 | 1 => exact same (itoa_num (by omega) hw.1 h)
 | 2 =>
  refine same ?_
  unfold rdW at h ⊢
  simp only [] at h ⊢
  split at h
  · rename_i hs
    rw [if_pos hs, hs]; rfl
  · rename_i hs
    rw [if_neg hs]
    have hr := (numV_rng (most := 1000000000) (by omega) w).1
    show (bif (numV 1000000000 w).2 == -1 then _ else Lib.itoa (numV 1000000000 w).2) = w
    rw [show ((numV 1000000000 w).2 == -1) = false by rw [beq_eq_false_iff_ne]; omega, cond_false]
    exact itoa_num (by omega) hw.1 h
 | 3 => exact same (itoa_num (by omega) hw.1 h)
 | 4 =>
  refine same ?_
  unfold rdW at h ⊢
  simp only [] at h ⊢
  split at h
  · rename_i hs
    rw [if_pos hs, hs]; rfl
  · rename_i hs
    rw [if_neg hs]
    split at h
    · rename_i hs2
      rw [if_pos hs2, hs2]; rfl
    · cases h
 | 5 =>
  by_cases hs : w = sAll
  · refine same ?_
    unfold rdW
    simp only []
    rw [if_pos hs, hs]; rfl
  · have h2 : (pmacV w).2 = 0 := by
      unfold rdW at h
      simp only [] at h
      rw [if_neg hs] at h
      split at h
      · assumption
      · cases h
    obtain ⟨h3, h4⟩ := mac_low h2
    have e : rdW 5 w x = (0, { x with m := (pmacV w).1 }) := by
     unfold rdW
     simp only []
     rw [if_neg hs, if_pos h2]
    rw [e]
    show Clean (hwF (pmacV w).1) ∧ rdW 5 (hwF (pmacV w).1) x = _ ∧ (hwF (pmacV w).1 = w ∨ _)
    unfold hwF
    by_cases hb : (pmacV w).1 = 281474976710655
    · rw [show ((pmacV w).1 == 281474976710655) = true by simpa using hb, cond_true]
      refine ⟨clean_all, ?_, .inr ⟨rfl, h2, rfl⟩⟩
      rw [hb]; rfl
    · rw [show ((pmacV w).1 == 281474976710655) = false by simpa using hb, cond_false, h3]
      refine ⟨clean_low hw, ?_, .inr ⟨rfl, h2, rfl⟩⟩
      have hne : w.map lowB ≠ sAll := fun e2 => by rw [e2, all_bad] at h4; cases congrArg Prod.snd h4
      unfold rdW
      simp only []
      rw [if_neg hne, h4]
      rfl
 | 6 =>
  refine same ?_
  unfold rdW at h ⊢
  simp only [] at h ⊢
  split at h
  · rename_i hs
    rw [if_pos hs]
    exact (ip_back hs).1
  · cases h
 | q + 7 => exact same (num_back hw.1 h)
end Go.Proofs.YtpelignoebgkbaaDoor
