/- Scripts: the law of joins: its tree. -/
import Derived.Test.YtpelignoebgkbaaDoorPart5
import Derived.Test.YtpelignoebgkbaaDoorPart1
import Derived.ChangeSame
import Derived.ChangeVars
import Derived.RowKit
import Derived.LaidLaws
import Derived.MakeChecks
import Derived.Lib.LaidTab
import Derived.Lay
import Derived.SevenTiedAt
import Derived.Test.YtpelignoebgkbaaDoorTie
import Derived.Test.YtpelignoebgkbaaDoorCards
set_option linter.unusedVariables false
set_option linter.unusedSimpArgs false
namespace Go.Proofs.YtpelignoebgkbaaDoor
open Go.Am
set_option maxRecDepth 100000
noncomputable def light_s : CSumm := fun args H => match args, H with
 | [.str s], [] => .ret (.bool (decide ((s.length : Int) ≤ 3000))) []
 | _, _ => .fail
theorem light_t (s : List UInt8) : opn (tbl []) Tryd.f7 [.str s] [] = .ret (.bool (decide ((s.length : Int) ≤ 3000))) [] := by kernel_rfl
theorem light_k : Known Tryd.prog 7 light_s := (openKnown ok0 Tryd.func7 rfl).weak (by
 intro args H v ups h
 unfold light_s at h
 split at h
 · exact (congrArg crun (light_t _)).trans h
 · cases h)
noncomputable def own_s : CSumm := fun args H => match args, H with
 | [.psl 38 xs], [] => .ite (dec (smSz xs)) (.ret (.qs 0 8 0 xs.length) [(0, some (.seq 38 xs))]) .fail
 | _, _ => .fail
theorem own_t (xs : List SV) : opn (tbl []) Tryd.f11 [.psl 38 xs] [] = bif decide (0 + xs.length ≤ 9223372036854775807) && decide ((0 + xs.length) * Tryd.prog.types[38].bytes ≤ 140737488355328) then .ret (.qs 0 8 0 (0 + xs.length)) [(0, some (.seq 38 ([] ++ xs)))] else .fail := by kernel_rfl
theorem grow38 {n : Nat} (h : n ≤ 10000000000) : (decide (n ≤ 9223372036854775807) && decide (n * Tryd.prog.types[38].bytes ≤ 140737488355328)) = true := by
 have hb := of_decide_eq_true b38
 have hb2 : n * Tryd.prog.types[38].bytes ≤ n * 1000 := Nat.mul_le_mul_left _ hb
 rw [decide_eq_true (show n ≤ 9223372036854775807 by omega), decide_eq_true (show n * Tryd.prog.types[38].bytes ≤ 140737488355328 by omega)]; rfl
theorem own_k : Known Tryd.prog 11 own_s := (openKnown ok0 Tryd.func11 rfl).weak (by
 intro args H v ups h
 unfold own_s at h
 split at h
 · rename_i xs
   rw [crun_ite] at h
   cases hc : dec (smSz xs) with
   | false => rw [hc] at h; cases h
   | true =>
    rw [hc, cond_true] at h
    have := dec_iff.1 hc
    unfold smSz at this
    refine (congrArg crun (own_t xs)).trans ?_
    rw [Nat.zero_add, grow38 (by omega), cond_true]
    exact h
 · cases h)
noncomputable abbrev TJ : List (Nat × CSumm) := [(6, constS (.bool true)), (7, light_s), (8, parse_s), (9, spl_s), (10, sameq_s), (11, own_s)]
theorem okJ : KOk Tryd.prog (tbl TJ) := tbl_cons lives_k (tbl_cons light_k (tbl_cons parse_k (tbl_cons spl_k (tbl_cons sameq_k (tbl_cons own_k ok0)))))
end Go.Proofs.YtpelignoebgkbaaDoor
/- Scripts: the law of joins answers true. -/
namespace Go.Proofs.YtpelignoebgkbaaDoor
open Go.Am
set_option maxRecDepth 100000
def jnA (p q : List Cmd × Int × Int) : Bool := bif p.2.1 == q.2.1 && p.2.2 == q.2.2 then (((p.1.map csv).length : Int) == 0) else false
noncomputable def jnT (a b : List UInt8) (p q r : List Cmd × Int × Int) : CTree :=
 bif decide (w64 ((((spl 10 a).map SV.str).length : Int) + (((spl 10 b).map SV.str).length : Int)) > 1000) then .ret (.bool (jnA r ([], 5, 1000))) [] else
 bif p.2.1 != 0 then .ret (.bool (bif jnA r p then (((p.1.map csv).length : Int) == 0) else false)) [] else
 bif q.2.1 != 0 then .ret (.bool (bif jnA r ([], q.2.1, w64 (q.2.2 + (((spl 10 a).map SV.str).length : Int))) then (((q.1.map csv).length : Int) == 0) else false)) [] else
 bif r.2.1 == 0 && r.2.2 == 0 then bif dec (smSz (p.1.map csv)) then bif decide ((p.1.map csv).length = (p.1.map csv).length) then
  bif decide ((p.1.map csv).length + (q.1.map csv).length ≤ 9223372036854775807) && decide (((p.1.map csv).length + (q.1.map csv).length) * Tryd.prog.types[38].bytes ≤ 140737488355328) then
   bif dec (smSz (r.1.map csv) ∧ (p.1.map csv).length + (q.1.map csv).length = (p.1.map csv ++ q.1.map csv).length) then .ret (.bool (sameB (r.1.map csv) (p.1.map csv ++ q.1.map csv))) [] else .fail
  else .fail else .fail else .fail
 else .ret (.bool false) []
noncomputable def joinsT (a b : List UInt8) : CTree :=
 bif (bif !decide ((a.length : Int) ≤ 3000) then true else !decide ((b.length : Int) ≤ 3000)) then .ret (.bool true) [] else
 bif decide (a.length ≤ 1000000) then bif decide (b.length ≤ 1000000) then bif decide (a.length + [(10 : UInt8)].length ≤ 9223372036854775807) then bif decide ((a ++ [10]).length + b.length ≤ 9223372036854775807) then bif decide ((a ++ [10] ++ b).length ≤ 1000000) then
 bif decide (a.length ≤ 1000000) then bif decide (b.length ≤ 1000000) then jnT a b (parseF a) (parseF b) (parseF (a ++ [10] ++ b)) else .fail else .fail else .fail else .fail else .fail else .fail else .fail
theorem joins_t (a b : List UInt8) : opn (tbl TJ) Tryd.f3 [.str a, .str b] [] = joinsT a b := by kernel_rfl
/- Lines. -/
theorem splR_app (c : UInt8) (b : List UInt8) : ∀ (a cur : List UInt8), splR (c.toNat : Int) (a ++ c :: b) cur = splR (c.toNat : Int) a cur ++ splR (c.toNat : Int) b []
 | [], cur => by simp [splR]
 | x :: a, cur => by
  rw [List.cons_append, splR, splR]
  cases ((x.toNat : Int) == (c.toNat : Int)) with
  | true => rw [cond_true, cond_true, splR_app c b a []]; rfl
  | false => rw [cond_false, cond_false, splR_app c b a _]
theorem spl_app (a b : List UInt8) : spl 10 (a ++ [10] ++ b) = spl 10 a ++ spl 10 b := by
 have := splR_app 10 b a []
 unfold spl
 rw [List.append_assoc]
 exact this
theorem pL_shift : ∀ (l : List (List UInt8)) (i d : Int), (pL l (i + d)).1 = (pL l i).1 ∧ (pL l (i + d)).2.1 = (pL l i).2.1 ∧ ((pL l i).2.1 ≠ 0 → (pL l (i + d)).2.2 = (pL l i).2.2 + d)
 | [], _, _ => ⟨rfl, rfl, fun h => absurd rfl h⟩
 | x :: l, i, d => by
  obtain ⟨h1, h2, h3⟩ := pL_shift l (i + 1) d
  rw [show i + 1 + d = i + d + 1 by omega] at h1 h2 h3
  unfold pL
  by_cases he : (lineF x).2.2.1 = 0
  · simp only [if_pos he]
    exact ⟨by rw [h1], h2, h3⟩
  · simp only [if_neg he]
    exact ⟨trivial, trivial, fun _ => trivial⟩
theorem pL_cons (x : List UInt8) (l : List (List UInt8)) (i : Int) : pL (x :: l) i = if (lineF x).2.2.1 = 0 then ((if (lineF x).2.1 then (lineF x).1 :: (pL l (i + 1)).1 else (pL l (i + 1)).1), (pL l (i + 1)).2) else ([], (lineF x).2.2.1, i) := rfl
theorem pL_app : ∀ (l m : List (List UInt8)) (i : Int), ((pL l i).2.1 ≠ 0 → (pL (l ++ m) i).2 = (pL l i).2) ∧ ((pL l i).2.1 = 0 → (pL (l ++ m) i).2 = (pL m (i + l.length)).2 ∧ (pL (l ++ m) i).1 = (pL l i).1 ++ (pL m (i + l.length)).1)
 | [], m, i => ⟨fun h => absurd rfl h, fun _ => ⟨by simp, by simp [pL]⟩⟩
 | x :: l, m, i => by
  obtain ⟨h1, h2⟩ := pL_app l m (i + 1)
  rw [List.cons_append, pL_cons, pL_cons]
  by_cases he : (lineF x).2.2.1 = 0
  · simp only [if_pos he]
    refine ⟨h1, fun h => ?_⟩
    obtain ⟨g1, g2⟩ := h2 h
    rw [show i + ((x :: l).length : Int) = i + 1 + (l.length : Int) by simp; omega]
    refine ⟨g1, ?_⟩
    rw [g2]
    cases (lineF x).2.1 <;> simp
  · simp only [if_neg he]
    exact ⟨fun _ => trivial, fun h => absurd h he⟩
theorem pL_cmds : ∀ (l : List (List UInt8)) (i : Int), (pL l i).1.length ≤ l.length
 | [], _ => Nat.le_refl _
 | x :: l, i => by
  have := pL_cmds l (i + 1)
  unfold pL
  split
  · split
    · simp; omega
    · simp; omega
  · simp
theorem parse_len (s : List UInt8) : (parseF s).1.length ≤ s.length + 1 := by
 have h1 := splR_len 10 s []
 have h2 := pL_cmds (spl 10 s) 0
 unfold spl at h2
 unfold parseF spl
 split
 · simp
 · split
   · show (pL _ 0).1.length ≤ _
     omega
   · simp
theorem spl10_len (s : List UInt8) : (spl 10 s).length = Lib.countByte s 10 + 1 := spl_len 10 s
theorem jn_true {a b : List UInt8} (ha : a.length ≤ 3000) (hb : b.length ≤ 3000) : crun (jnT a b (parseF a) (parseF b) (parseF (a ++ [10] ++ b))) = some (.bool true, []) := by
 have la := spl10_len a
 have lb := spl10_len b
 have lr := spl10_len (a ++ [10] ++ b)
 rw [spl_app, List.length_append, la, lb] at lr
 have ca := cnt_le a 10
 have cb := cnt_le b 10
 have e1 : (((spl 10 a).map SV.str).length : Int) = (Lib.countByte a 10 : Int) + 1 := by rw [List.length_map, la]; omega
 have e2 : (((spl 10 b).map SV.str).length : Int) = (Lib.countByte b 10 : Int) + 1 := by rw [List.length_map, lb]; omega
 have pa := parse_len a
 have pb := parse_len b
 have pr := parse_len (a ++ [10] ++ b)
 have hrl : (a ++ [10] ++ b).length ≤ 6001 := by simp; omega
 unfold jnT
 rw [e1, e2, show w64 ((Lib.countByte a 10 : Int) + 1 + ((Lib.countByte b 10 : Int) + 1)) = (Lib.countByte a 10 : Int) + 1 + ((Lib.countByte b 10 : Int) + 1) from w64_id (by omega) (by omega)]
 by_cases h0 : (Lib.countByte a 10 : Int) + 1 + ((Lib.countByte b 10 : Int) + 1) > 1000
 · rw [decide_eq_true h0, cond_true]
   have : parseF (a ++ [10] ++ b) = ([], 5, 1000) := by unfold parseF; rw [if_pos (by omega)]
   rw [this]; rfl
 · rw [decide_eq_false h0, cond_false]
   obtain ⟨g1, g2⟩ := pL_app (spl 10 a) (spl 10 b) 0
   obtain ⟨s1, s2, s3⟩ := pL_shift (spl 10 b) 0 ((spl 10 a).length : Int)
   have hA : parseF a = if (pL (spl 10 a) 0).2.1 = 0 then ((pL (spl 10 a) 0).1, 0, 0) else ([], (pL (spl 10 a) 0).2) := by unfold parseF; rw [if_neg (by omega)]
   have hB : parseF b = if (pL (spl 10 b) 0).2.1 = 0 then ((pL (spl 10 b) 0).1, 0, 0) else ([], (pL (spl 10 b) 0).2) := by unfold parseF; rw [if_neg (by omega)]
   have hR : parseF (a ++ [10] ++ b) = if (pL (spl 10 a ++ spl 10 b) 0).2.1 = 0 then ((pL (spl 10 a ++ spl 10 b) 0).1, 0, 0) else ([], (pL (spl 10 a ++ spl 10 b) 0).2) := by unfold parseF; rw [if_neg (by omega), spl_app]
   by_cases hea : (pL (spl 10 a) 0).2.1 = 0
   · rw [if_pos hea] at hA
     obtain ⟨k1, k2⟩ := g2 hea
     rw [k1, k2] at hR
     by_cases heb : (pL (spl 10 b) 0).2.1 = 0
     · rw [if_pos heb] at hB
       rw [if_pos (by rw [s2]; exact heb), s1] at hR
       rw [hA] at pa
       rw [hB] at pb
       rw [hR] at pr
       simp only at pa pb pr
       rw [hA, hB, hR]
       simp only [bne_self_eq_false, cond_false, beq_self_eq_true, Bool.and_self, cond_true]
       have z1 : ((pL (spl 10 a) 0).1.map csv).length ≤ 3001 := by rw [List.length_map]; omega
       have z2 : ((pL (spl 10 b) 0).1.map csv).length ≤ 3001 := by rw [List.length_map]; omega
       rw [dec_iff.2 (show smSz ((pL (spl 10 a) 0).1.map csv) by unfold smSz; omega), cond_true, decide_true, cond_true, grow38 (by omega), cond_true,
        dec_iff.2 ⟨show smSz (((pL (spl 10 a) 0).1 ++ (pL (spl 10 b) 0).1).map csv) by unfold smSz; rw [List.length_map]; omega, by rw [List.length_append]⟩, cond_true, List.map_append, sameB_self]
       rfl
     · rw [if_neg heb] at hB
       rw [if_neg (by rw [s2]; exact heb)] at hR
       have s3' := s3 heb
       rw [hA, hB, hR]
       simp only [bne_self_eq_false, cond_false]
       rw [show ((pL (spl 10 b) 0).2.1 != 0) = true by simpa using heb, cond_true]
       have hidx : ∀ (l : List (List UInt8)) (i : Int), 0 ≤ i → i ≤ 100000 → l.length ≤ 100000 → 0 ≤ (pL l i).2.2 ∧ (pL l i).2.2 ≤ i + l.length ∨ (pL l i).2.1 = 0 := by
        intro l
        induction l with
        | nil => intro i _ _ _; exact .inr rfl
        | cons x l ih =>
         intro i hi hi2 hl
         unfold pL
         by_cases he : (lineF x).2.2.1 = 0
         · simp only [if_pos he]
           simp only [List.length_cons] at hl ⊢
           by_cases h5 : i = 100000
           · have hq : ∀ (l : List (List UInt8)) (i : Int), i ≤ (pL l i).2.2 ∧ (pL l i).2.2 ≤ i + l.length ∨ (pL l i).2.1 = 0 := by
               intro l
               induction l with
               | nil => intro i; exact .inr rfl
               | cons x l ih =>
                intro i
                unfold pL
                by_cases he : (lineF x).2.2.1 = 0
                · simp only [if_pos he]
                  rcases ih (i + 1) with h | h
                  · left; simp only [List.length_cons]; omega
                  · exact .inr h
                · simp only [if_neg he]; left; simp only [List.length_cons]; omega
             rcases hq l (i + 1) with h | h
             · left; omega
             · exact .inr h
           · rcases ih (i + 1) (by omega) (by omega) (by omega) with h | h
             · left; omega
             · exact .inr h
         · simp only [if_neg he]
           left
           simp only [List.length_cons]; omega
       have hix := hidx (spl 10 b) 0 (Int.le_refl _) (by omega) (by omega)
       rcases hix with hix | hix
       · have ew : w64 ((pL (spl 10 b) 0).2.2 + ((Lib.countByte a 10 : Int) + 1)) = (pL (spl 10 b) 0).2.2 + ((Lib.countByte a 10 : Int) + 1) := w64_id (by omega) (by omega)
         unfold jnA
         simp only []
         rw [s2, s3', ew, show ((spl 10 a).length : Int) = (Lib.countByte a 10 : Int) + 1 by omega]
         simp [crun]
       · exact absurd hix heb
   · rw [if_neg hea] at hA
     have k1 := g1 hea
     rw [if_neg (by rw [k1]; exact hea), k1] at hR
     rw [hA, hR]
     simp only []
     rw [show ((pL (spl 10 a) 0).2.1 != 0) = true by simpa using hea, cond_true]
     unfold jnA
     simp [crun]
theorem joins_true (a b : List UInt8) : crun (joinsT a b) = some (.bool true, []) := by
 unfold joinsT
 by_cases ha : (a.length : Int) ≤ 3000
 · by_cases hb : (b.length : Int) ≤ 3000
   · rw [decide_eq_true ha, decide_eq_true hb]
     simp only [Bool.not_true, cond_false]
     have h1 : (a ++ [10] ++ b).length = a.length + 1 + b.length := by simp; omega
     have h2 : (a ++ [(10 : UInt8)]).length = a.length + 1 := by simp
     have h3 : (a ++ [10] ++ b).length ≤ 1000000 := by rw [h1]; omega
     have h4 : (a ++ [(10 : UInt8)]).length + b.length ≤ 9223372036854775807 := by rw [h2]; omega
     rw [decide_eq_true (show a.length ≤ 1000000 by omega), decide_eq_true (show b.length ≤ 1000000 by omega), decide_eq_true (show a.length + [(10 : UInt8)].length ≤ 9223372036854775807 by simp; omega), decide_eq_true h4, decide_eq_true h3]
     simp only [cond_true]
     exact jn_true (by omega) (by omega)
   · rw [decide_eq_true ha, decide_eq_false hb]; rfl
 · rw [decide_eq_false ha]; rfl
noncomputable def joins_s : CSumm := fun args H => match args, H with
 | [.str _, .str _], [] => .ret (.bool true) []
 | _, _ => .fail
theorem joins_k : Known Tryd.prog 3 joins_s := (openKnown okJ Tryd.func3 rfl).weak (by
 intro args H v ups h
 unfold joins_s at h
 split at h
 · rename_i a b
   exact ((congrArg crun (joins_t a b)).trans (joins_true a b)).trans h
 · cases h)
end Go.Proofs.YtpelignoebgkbaaDoor
/- Scripts: frames, by both sides. -/
namespace Go.Proofs.YtpelignoebgkbaaDoor
open Go.Am
set_option maxRecDepth 100000
def sendsB (k : Int) : Bool := k == 12 || k == 9 || k == 10 || k == 11
def sends_s : CSumm
 | [.int .i64 k], [] => .ret (.bool (sendsB k)) []
 | _, _ => .fail
def sendsR (k : Int) : CTree := bif k == 12 then CTree.ret (SV.bool true) []
else
 bif k == 9 then bif k == 9 then CTree.ret (SV.bool true) [] else CTree.ret (SV.bool false) []
 else
  bif k == 10 then bif k == 10 then CTree.ret (SV.bool true) [] else CTree.ret (SV.bool false) []
  else bif k == 11 then CTree.ret (SV.bool true) [] else CTree.ret (SV.bool false) []
theorem sends_t (k : Int) : opn (tbl []) Tryd.f19 [.int .i64 k] [] = sendsR k := by kernel_rfl
theorem sends6_t (k : Int) : opn (tbl []) Tryd.f21 [.int .i64 k] [] = CTree.ret (SV.bool (bif bif bif k == 9 then true else k == 10 then true else k == 11 then true else k == 12)) [] := by kernel_rfl
theorem sends_k : Known Tryd.prog 19 sends_s := known_of_bodyC noNumTry mixTry (openT_ok noNumTry mixTry ok0 300 5) Tryd.func19 rfl (by
 intro args H v ups h
 unfold sends_s at h
 split at h
 · rename_i k
   refine Eq.trans (congrArg crun (sends_t k)) ?_
   rw [← h]
   unfold sendsR sendsB
   cases k == 9 <;> cases k == 10 <;> cases k == 11 <;> cases k == 12 <;> rfl
 · cases h)
theorem sends6_k : Known Tryd.prog 21 sends_s := known_of_bodyC noNumTry mixTry (openT_ok noNumTry mixTry ok0 300 5) Tryd.func21 rfl (by
 intro args H v ups h
 unfold sends_s at h
 split at h
 · rename_i k
   refine Eq.trans (congrArg crun (sends6_t k)) ?_
   rw [← h]
   unfold sendsB
   cases k == 9 <;> cases k == 10 <;> cases k == 11 <;> cases k == 12 <;> rfl
 · cases h)
noncomputable abbrev TF : List (Nat × CSumm) := [(6, constS (.bool true)), (19, sends_s), (21, sends_s)]
theorem okF : KOk Tryd.prog (tbl TF) := tbl_cons lives_k (tbl_cons sends_k (tbl_cons sends6_k ok0))
end Go.Proofs.YtpelignoebgkbaaDoor
/- Scripts: the law of frames: its tree, and why it answers true. -/
namespace Go.Proofs.YtpelignoebgkbaaDoor
open Go.Am
set_option maxRecDepth 100000
def eqs : List Int → List Int → Bool
 | [a], [b] => a == b
 | a :: l, b :: m => a == b && eqs l m
 | _, _ => false
theorem eqs_self : ∀ {l : List Int}, l ≠ [] → eqs l l = true
 | [], h => absurd rfl h
 | [a], _ => by simp [eqs]
 | a :: b :: l, _ => by simp [eqs, eqs_self (l := b :: l) (by simp)]
def frZ : List Int := [0, 0, 0, 0, 0, 0, 0, 0, 0, 0, 0, 0, 0, 0, 0]
def frT (es : List SV) (k a b m i d : Int) (K : List Int → Bool → CTree) : CTree :=
 bif bif bif !sendsB k then true else decide (a < 0) then true else decide (a ≥ (es.length : Int)) then K frZ false
 else bif inB a es.length then
  bif k == 10 then K [asI (cellAt (List.getD es (Int.toNat a) SV.junk) 0), 281474976710655, 1, 1, asI (cellAt (List.getD es (Int.toNat a) SV.junk) 0), asI (cellAt (List.getD es (Int.toNat a) SV.junk) (0 + 1)), 0, i, 0, 0, 0, 0, 0, 0, d] true
  else bif k == 11 then K [asI (cellAt (List.getD es (Int.toNat a) SV.junk) 0), 1577058561, 2, 0, 0, 0, 0, 0, asI (cellAt (List.getD es (Int.toNat a) SV.junk) (0 + 1)), i, 64, 17, IntKind.wrap IntKind.i64 (1024 + a), b, d] true
  else K [asI (cellAt (List.getD es (Int.toNat a) SV.junk) 0), m, 0, 0, 0, 0, 0, 0, 0, 0, 0, 0, 0, 0, d] true
 else .fail
def lawT (es : List SV) (k a b m i d : Int) : CTree :=
 bif decide ((es.length : Int) > 20) then .ret (.bool true) [] else
  frT es k a b m i d fun x is => frT es k a b m i d fun y was => .ret (.bool (bif eqs x y then is == was else false)) []
theorem law_t (es : List SV) (k a b c : Int) (up : Bool) (m i d : Int) : opn (tbl TF) Tryd.f4 [.psl 71 es, .agg [.int .i64 k, .int .i64 a, .int .i64 b, .int .i64 c, .bool up, .int .u64 m, .int .u32 i, .int .u64 d]] [] = lawT es k a b m i d := by kernel_rfl
theorem fr_same (es : List SV) (k a b m i d : Int) : crun (frT es k a b m i d fun x is => frT es k a b m i d fun y was => .ret (.bool (bif eqs x y then is == was else false)) []) = some (.bool true, []) := by
 unfold frT
 cases hq : (bif bif !sendsB k then true else decide (a < 0) then true else decide (a ≥ (es.length : Int))) with
 | true => rfl
 | false =>
  have hb : inB a es.length = true := by
   cases h1 : sendsB k <;> cases h2 : decide (a < 0) <;> cases h3 : decide (a ≥ (es.length : Int)) <;> simp [h1, h2, h3] at hq
   have g2 := of_decide_eq_false h2
   have g3 := of_decide_eq_false h3
   exact inB_ok (by omega) (by omega)
  simp only [hb, cond_true, cond_false]
  cases k == 10 with
  | true => simp only [cond_true]; rw [eqs_self (by simp)]; rfl
  | false =>
   simp only [cond_false]
   cases k == 11 with
   | true => simp only [cond_true]; rw [eqs_self (by simp)]; rfl
   | false => simp only [cond_false]; rw [eqs_self (by simp)]; rfl
theorem law_true (es : List SV) (k a b m i d : Int) : crun (lawT es k a b m i d) = some (.bool true, []) := by
 unfold lawT
 cases decide ((es.length : Int) > 20) with
 | true => rfl
 | false => exact fr_same es k a b m i d
def frames_s : CSumm
 | [.psl 71 _, .agg [.int .i64 _, .int .i64 _, .int .i64 _, .int .i64 _, .bool _, .int .u64 _, .int .u32 _, .int .u64 _]], [] => .ret (.bool true) []
 | _, _ => .fail
theorem frames_k : Known Tryd.prog 4 frames_s := known_of_bodyC noNumTry mixTry (openT_ok noNumTry mixTry okF 300 5) Tryd.func4 rfl (by
 intro args H v ups h
 unfold frames_s at h
 split at h
 · refine (Eq.trans (congrArg crun (law_t _ _ _ _ _ _ _ _ _)) (law_true _ _ _ _ _ _ _)).trans ?_
   rw [← h]
   rfl
 · cases h)
end Go.Proofs.YtpelignoebgkbaaDoor
/- The law ScriptFrames answers true, whatever hosts and whatever command it is handed: its row and its card. No condition but what the row lists. -/
namespace Go.Proofs.YtpelignoebgkbaaDoor
open Go.Am Go.ChangeShapes Go.WideShapes Go.ChangeAt Go.RowKit Go.Joins Go.Lib
set_option maxRecDepth 100000
theorem Tryd.own : ownKnob Tryd.prog.godebug = none := by kernel_rfl
theorem laidTryd : laidOutB Tryd.prog = true := by kernel_rfl
theorem mapsTryd : mapsRowed Tryd.prog = true := by kernel_rfl
theorem fullTryd : ((List.range Tryd.prog.types.size).all fun t => match Tryd.prog.underlying t with | some (.slice e) => decide (0 < Tryd.prog.cellsOf e) | _ => true) = true := by kernel_rfl
theorem frH_eq (W : World) : laidMetH Tryd.prog Rows.scriptFramesRow.laid W = laidMet Tryd.prog Rows.scriptFramesRow.laid W := MakeChecks.laidMetH_plain _ _ _ (by kernel_rfl)
noncomputable def frWit (os : Os) : World := World.laidAll Tryd.prog os Rows.scriptFramesRow.laid
theorem frWit_met (os : Os) (args : Array Value) : laidMet Tryd.prog Rows.scriptFramesRow.laid ((frWit os).forCall (fun _ _ => 0) ⟨#[], args, []⟩).memory := laidMet_laidAll _ (by kernel_rfl) (by kernel_rfl)
theorem cmd_inv {v : SV} (hv : OkV Tryd.prog 38 v) : ∃ k a b c up m i d, v = .agg [.int .i64 k, .int .i64 a, .int .i64 b, .int .i64 c, .bool up, .int .u64 m, .int .u32 i, .int .u64 d] ∧ (Lit.int .i64 a).wf = true ∧ (Lit.int .i64 b).wf = true ∧ (Lit.int .i64 c).wf = true ∧ (Lit.int .u64 m).wf = true ∧ (Lit.int .u32 i).wf = true ∧ (Lit.int .u64 d).wf = true := by
 obtain ⟨cs, rfl, hh⟩ := hv.agg_inv (by kernel_rfl)
 rw [show leaves Tryd.prog 40 38 = [3, 3, 3, 3, 4, 34, 36, 33] by kernel_rfl] at hh
 obtain ⟨x0, cs, rfl, i0, hh⟩ := hh.cons_inv
 obtain ⟨x1, cs, rfl, i1, hh⟩ := hh.cons_inv
 obtain ⟨x2, cs, rfl, i2, hh⟩ := hh.cons_inv
 obtain ⟨x3, cs, rfl, i3, hh⟩ := hh.cons_inv
 obtain ⟨x4, cs, rfl, i4, hh⟩ := hh.cons_inv
 obtain ⟨x5, cs, rfl, i5, hh⟩ := hh.cons_inv
 obtain ⟨x6, cs, rfl, i6, hh⟩ := hh.cons_inv
 obtain ⟨x7, cs, rfl, i7, hh⟩ := hh.cons_inv
 obtain rfl := hh.nil_inv
 obtain ⟨k, rfl, w0⟩ := i0.int_inv Tryd.underlying3
 obtain ⟨a, rfl, w1⟩ := i1.int_inv Tryd.underlying3
 obtain ⟨b, rfl, w2⟩ := i2.int_inv Tryd.underlying3
 obtain ⟨c, rfl, w3⟩ := i3.int_inv Tryd.underlying3
 obtain ⟨up, rfl⟩ := i4.bool_inv Tryd.underlying4
 obtain ⟨m, rfl, w5⟩ := i5.int_inv Tryd.underlying34
 obtain ⟨i, rfl, w6⟩ := i6.int_inv Tryd.underlying36
 obtain ⟨d, rfl, w7⟩ := i7.int_inv Tryd.underlying33
 exact ⟨k, a, b, c, up, m, i, d, rfl, w1, w2, w3, w5, w6, w7⟩
def cmd0 : Value := .agg #[.int .i64 0, .int .i64 0, .int .i64 0, .int .i64 0, .bool false, .int .u64 0, .int .u32 0, .int .u64 0]
theorem scriptFrames_lifted (os : Os) (started : os.Started) (H : Type) (enc : TypeId × Value → H) :
  ReturnsInHanded {} Tryd.checked os 4 .any (fun w args => (Rows.scriptFramesSpec.pre enc Tryd.prog Tryd.f4 [] false w args ∧ laidMetH Tryd.prog Rows.scriptFramesRow.laid w) ∧ sizedMet enc Tryd.prog Tryd.f4 (OpenSpec.ofChange Rows.scriptFramesSpec) false w args)
   (Rows.scriptFramesSpec.post enc Tryd.prog Tryd.f4 false true false false) := by
 refine returnsInHanded_of_change_and (C := Tryd.checked) (X := fun w _ => laidMetH Tryd.prog Rows.scriptFramesRow.laid w) (fun _ _ _ hh h => h.of_heap hh) Tryd.own started (by kernel_rfl) Tryd.func4
  (ChangeSpec.witness_shaped (enc := enc) (C := Tryd.checked) (os := os) (X := fun w _ => laidMetH Tryd.prog Rows.scriptFramesRow.laid w) false (frWit os) #[.slice none 0 0, cmd0] 8 (World.laidAll_os _ _ _)
   (World.shaped_of_ZipB (by kernel_rfl) (by kernel_rfl)) (by kernel_rfl) (by kernel_rfl) (by kernel_rfl)
   (by rw [frH_eq]; exact frWit_met os _)) ?_
 intro W base args ds gs before hval0 hW _ _ hL _
 exact row_true (tb := 4) laidTryd mapsTryd fullTryd (by kernel_rfl) (by kernel_rfl) frames_k rfl Tryd.underlying4 rfl (fun ss h => by
  rw [Tryd.params4] at h
  obtain ⟨s0, ss, rfl, h0, h⟩ := h.cons_inv
  obtain ⟨s1, ss, rfl, h1, h⟩ := h.cons_inv
  obtain rfl := h.nil_inv
  obtain ⟨es, rfl, -⟩ := h0.sl_inv Tryd.underlying41
  obtain ⟨k, a, b, c, up, m, i, d, rfl, -⟩ := cmd_inv h1
  rfl) (fun ds h => by
   match ds, h with
   | [d0, d1], _ => rfl) hval0 hW (GlobR.empty (by kernel_rfl))
theorem scriptFrames_row : Rows.ScriptFramesSaid :=
 OpenClaim.holds_of_wide 4 Tryd.f4 rfl rfl rfl rfl rfl rfl rfl ⟨rfl, rfl, rfl, rfl, rfl⟩ rfl rfl rfl rfl rfl (by kernel_rfl) Tryd.func4 (by kernel_rfl)
  (of_decide_eq_true (by kernel_rfl)) (by unfold Func.isWrapper; first | (rw [if_pos (by decide +kernel)]; kernel_rfl) | (rw [if_neg (by decide +kernel)]; exact ⟨rfl, rfl⟩))
  (fun os started H enc _ => scriptFrames_lifted os started H enc)
theorem scriptFrames_holds : Rows.ScriptFramesCardSaid :=
 Claim7.holds_tied_plain_at .later [] [.data, .pinned] true (true, "61966693bf389f9f5b1f7039f93527e16b3124165a3db7c62488b5b8f5658ea1") true scriptFrames_row (fun _ h => by cases h) (by kernel_rfl) (fun _ h => by cases h) scriptFrames_row_tie rfl ⟨rfl, rfl⟩ (by kernel_rfl) rfl
  (fun f fn hf hfn => by
   obtain rfl : f = 4 := Option.some.inj ((show Tryd.prog.funcNamed "leafmesh/leafmeshlaw39.ScriptFrames" = some 4 by kernel_rfl).symm.trans hf) |>.symm
   obtain rfl : fn = Tryd.f4 := (Option.some.inj (Tryd.func4.symm.trans hfn)).symm
   exact ⟨by kernel_rfl, fun j t ht => by
    rw [Tryd.params4] at ht
    have hm : t ∈ [41, 38] := by simpa using Array.mem_of_getElem? ht
    have hall : ([41, 38].all fun u => !Tryd.prog.wantsStandIn u) = true := by kernel_rfl
    exact (show Tryd.prog.wantsStandIn t = false by simpa using List.all_eq_true.1 hall t hm)⟩)
  (by kernel_rfl)
end Go.Proofs.YtpelignoebgkbaaDoor
#print axioms Go.Proofs.YtpelignoebgkbaaDoor.scriptFrames_holds
