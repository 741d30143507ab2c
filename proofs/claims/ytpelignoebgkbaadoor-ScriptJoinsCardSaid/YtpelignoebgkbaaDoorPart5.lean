/- Scripts: a line is read, plainly. -/
import Derived.Test.YtpelignoebgkbaaDoorPart4
import Derived.Test.YtpelignoebgkbaaDoorMachine9
set_option linter.unusedVariables false
set_option linter.unusedSimpArgs false
namespace Go.Proofs.YtpelignoebgkbaaDoor
open Go.Am
set_option maxRecDepth 100000
def cmd0' (k : Int) : Cmd := ⟨k, 0, 0, 0, false, 0, 0, 0⟩
def brF (n : Int) : List Nat → Cmd → List (List UInt8 × Int) → Int × Int × Cmd
 | [], x, [] => (0, 0, x)
 | [], x, w :: _ => (19, w.2, x)
 | _ :: _, x, [] => (19, n, x)
 | q :: qs, x, w :: ws => if (rdW q w.1 x).1 = 0 then brF n qs (rdW q w.1 x).2 ws else ((rdW q w.1 x).1, w.2, x)
def frmF (n : Int) (w : List UInt8 × Int) (ws : List (List UInt8 × Int)) : List (List UInt8 × Int × List Nat) → Int × Int × Cmd
 | [] => (8, 0, cmd0' 0)
 | f :: r => if f.1 = w.1 then brF n f.2.2 (cmd0' f.2.1) ws else frmF n w ws r
def readF (s : List UInt8) : Int × Int × Cmd :=
 match (words s).2, (words s).1 with
 | some p, _ => (19, p, cmd0' 0)
 | none, [] => (8, 0, cmd0' 0)
 | none, w :: ws => frmF s.length w ws formsL
def resT (r : Int × Int × Cmd) : CTree := bif r.1 == 0 then .ret (.tup [.bool true, .agg r.2.2.cs]) [] else raiseT r.1 r.2.1
theorem wS_wsv (w : List UInt8 × Int) : wS (wsv w) = w.1 := rfl
theorem wA_wsv (w : List UInt8 × Int) : wA (wsv w) = w.2 := rfl
theorem in0_cons (w : List UInt8 × Int) (ws : List (List UInt8 × Int)) (K : SV → CTree) : in0 ((w :: ws).map wsv) K = K (wsv w) := by
 unfold in0
 rw [inB_ok (Int.le_refl _) (by rw [List.length_map, List.length_cons]; omega), cond_true]
 rfl
theorem sl1_cons (w : List UInt8 × Int) (ws : List (List UInt8 × Int)) (K : List SV → CTree) : sl1 ((w :: ws).map wsv) K = K (ws.map wsv) := by
 unfold sl1
 rw [slB_ok (a := 1) (b := (((w :: ws).map wsv).length : Int)) (by omega) (by simp; omega) (Int.le_refl _), cond_true]
 congr 1
 show (ws.map wsv).take (((w :: ws).map wsv).length - 1) = _
 exact List.take_of_length_le (by simp)
theorem brT_eq (n : Int) : ∀ (qs : List Nat) (x : Cmd) (ws : List (List UInt8 × Int)), (∀ w ∈ ws, w.1.length ≤ 1000000) → crun (brT n qs x (ws.map wsv)) = crun (resT (brF n qs x ws))
 | [], x, [], _ => rfl
 | [], x, w :: ws, _ => by
  unfold brT brF
  rw [decide_eq_true (by rw [List.length_map, List.length_cons]; omega), cond_true, in0_cons]
  rfl
 | q :: qs, x, [], _ => by unfold brT brF; rfl
 | q :: qs, x, w :: ws, h => by
  have hw := h w (by simp)
  unfold brT brF
  rw [show ((((w :: ws).map wsv).length : Int) == 0) = false by rw [beq_eq_false_iff_ne]; simp; omega, cond_false, in0_cons, wS_wsv, wA_wsv, dec_iff.2 hw, cond_true, in0_cons, wS_wsv, dec_iff.2 hw, cond_true, sl1_cons]
  by_cases he : (rdW q w.1 x).1 = 0
  · rw [if_pos he, show ((rdW q w.1 x).1 == 0) = true by simpa using he, cond_true, cond_true]
    exact brT_eq n qs _ ws (fun v hv => h v (by simp [hv]))
  · rw [if_neg he, show ((rdW q w.1 x).1 == 0) = false by simpa using he, cond_false]
    unfold resT
    rw [show ((rdW q w.1 x).1 == 0) = false by simpa using he]
    rfl
theorem frmT_eq (n : Int) (w : List UInt8 × Int) (ws : List (List UInt8 × Int)) (h : ∀ v ∈ w :: ws, v.1.length ≤ 1000000) : ∀ (fs : List (List UInt8 × Int × List Nat)), crun (frmT n ((w :: ws).map wsv) fs) = crun (resT (frmF n w ws fs))
 | [] => rfl
 | f :: r => by
  unfold frmT frmF
  rw [in0_cons, in0_cons, wS_wsv, sl1_cons]
  by_cases he : f.1 = w.1
  · rw [if_pos he, show (f.1 == w.1) = true by simpa using he, Bool.not_true, cond_false]
    exact brT_eq n _ _ ws (fun v hv => h v (by simp [hv]))
  · rw [if_neg he, show (f.1 == w.1) = false by simpa using he, Bool.not_false, cond_true]
    exact frmT_eq n w ws h r
theorem wordsF_len : ∀ (l : List (List UInt8)) (a : Int) (B : Nat), (∀ w ∈ l, w.length ≤ B) → ∀ w ∈ (wordsF l a).1, w.1.length ≤ B
 | [], _, _, _, w, hw => by simp [wordsF] at hw
 | v :: l, a, B, h, w, hw => by
  unfold wordsF at hw
  split at hw
  · simp at hw
  · rcases List.mem_cons.1 hw with rfl | hw
    · exact h v (by simp)
    · exact wordsF_len l _ B (fun u hu => h u (by simp [hu])) w hw
theorem splR_each (c : Int) : ∀ (s cur : List UInt8), ∀ w ∈ splR c s cur, w.length ≤ s.length + cur.length
 | [], cur, w, hw => by simp [splR] at hw; simp [hw]
 | x :: xs, cur, w, hw => by
  rw [splR] at hw
  cases hx : ((x.toNat : Int) == c) with
  | true =>
   rw [hx, cond_true] at hw
   rcases List.mem_cons.1 hw with rfl | hw
   · simp
   · have := splR_each c xs [] w hw; simp at this ⊢; omega
  | false =>
   rw [hx, cond_false] at hw
   have := splR_each c xs (cur ++ [x]) w hw
   simp at this ⊢; omega
theorem words_len {s : List UInt8} : ∀ w ∈ (words s).1, w.1.length ≤ s.length :=
 wordsF_len _ 0 s.length (fun w hw => by have := splR_each 32 s [] w hw; simpa using this)
theorem words_some {s : List UInt8} (h : (words s).2 = none) : (words s).1 ≠ [] := by
 unfold words spl at *
 cases hq : splR 32 s [] with
 | nil =>
  have : ∀ (s cur : List UInt8), splR 32 s cur ≠ [] := by
   intro s
   induction s with
   | nil => intro cur; simp [splR]
   | cons x xs ih =>
    intro cur
    rw [splR]
    cases ((x.toNat : Int) == 32)
    · exact ih _
    · simp
  exact absurd hq (this s [])
 | cons v l =>
  rw [hq] at h
  unfold wordsF at h ⊢
  split at h
  · cases h
  · rename_i hv; simp [hv]
noncomputable def read_s : CSumm := fun args H => match args, H with
 | [.str s], [] => .ite (decide (s.length ≤ 1000000)) (.ite ((readF s).1 == 0) (.ret (.tup [.bool true, .agg (readF s).2.2.cs]) []) (.ret (.tup [.bool false, flt (readF s).1 (readF s).2.1]) [])) .fail
 | _, _ => .fail
theorem read_k : KnownX Tryd.prog 34 read_s := ⟨read_k0.fn, fun args H b v ups h => by
 refine read_k0.ok args H b v ups ?_
 unfold read_s at h
 split at h
 · rename_i s
   rw [crun_ite, cond_eq_ite] at h
   split at h
   · rename_i hc
     have hs := of_decide_eq_true hc
     rw [crun_ite] at h
     refine (congrArg crun (read_t s)).trans ?_
     rw [decide_eq_true hs, cond_true]
     have hres : crun (resT (readF s)) = some (.tup [.bool b, v], ups) := by unfold resT; rw [crun_cond]; exact h
     rw [← hres]
     unfold readF
     cases h2 : (words s).2 with
     | some p => rfl
     | none =>
      cases h1 : (words s).1 with
      | nil => exact absurd h1 (words_some h2)
      | cons w ws =>
       rw [Option.isSome, cond_false]
       exact frmT_eq s.length w ws (fun v hv => Nat.le_trans (words_len v (by rw [h1]; exact hv)) hs) formsL
   · cases h
 · cases h⟩
end Go.Proofs.YtpelignoebgkbaaDoor
/- Scripts: Line. -/
namespace Go.Proofs.YtpelignoebgkbaaDoor
open Go.Am
set_option maxRecDepth 100000
noncomputable abbrev πL : Nat → Option CSumm := tbl [(33, fail_s), (34, read_s)]
theorem πLok : XOk Tryd.prog πL := xtbl_cons fail_k (xtbl_cons read_k xtbl_nil)
noncomputable def line_b : CSumm := deferX Tryd.prog κR πL [2, 3, 4] 300 Tryd.f15 Tryd.f31 lnA lnB lcB 6 31 6 3 caps3
theorem line_k0 : Known Tryd.prog 15 line_b := ⟨⟨Tryd.f15, Tryd.func15, noNum_at noNumTry Tryd.func15, rfl⟩, deferX_valid κRok πLok mixTry Tryd.func15 dfr15 clo31⟩
def lnO (x : Cmd) (is : Bool) (e a : Int) : CTree := .ret (.tup [.agg x.cs, .bool is, .agg [.int .i64 e, .int .i64 a]]) []
theorem line_t (s : List UInt8) : line_b [.str s] [] =
 bif decide (Lib.indexByte s 10 ≥ 0) then lnO (cmd0' 0) false 19 (Lib.indexByte s 10) else
  bif s == [] then lnO (cmd0' 0) false 0 0 else bif inB 0 s.length then bif ((s.getD (0 : Int).toNat 0).toNat : Int) == 35 then lnO (cmd0' 0) false 0 0 else
   bif decide (s.length ≤ 1000000) then bif (readF s).1 == 0 then lnO (readF s).2.2 true 0 0 else lnO (cmd0' 0) false (readF s).1 (readF s).2.1 else .fail
  else .fail := by kernel_rfl
def lineF (s : List UInt8) : Cmd × Bool × Int × Int :=
 if 0 ≤ Lib.indexByte s 10 then (cmd0' 0, false, 19, Lib.indexByte s 10) else if s = [] ∨ s.getD 0 0 = 35 then (cmd0' 0, false, 0, 0)
 else if (readF s).1 = 0 then ((readF s).2.2, true, 0, 0) else (cmd0' 0, false, (readF s).1, (readF s).2.1)
noncomputable def line_s : CSumm := fun args H => match args, H with
 | [.str s], [] => .ite (decide (s.length ≤ 1000000)) (lnO (lineF s).1 (lineF s).2.1 (lineF s).2.2.1 (lineF s).2.2.2) .fail
 | _, _ => .fail
theorem line_k : Known Tryd.prog 15 line_s := line_k0.weak (by
 intro args H v ups h
 unfold line_s at h
 split at h
 · rename_i s
   rw [crun_ite, cond_eq_ite] at h
   split at h
   · rename_i hc
     have hs := of_decide_eq_true hc
     refine (congrArg crun (line_t s)).trans ?_
     rw [← h]
     unfold lineF
     by_cases h1 : 0 ≤ Lib.indexByte s 10
     · rw [if_pos h1, decide_eq_true (show Lib.indexByte s 10 ≥ 0 from h1)]; rfl
     · rw [if_neg h1, decide_eq_false (show ¬ Lib.indexByte s 10 ≥ 0 from h1), cond_false]
       by_cases h2 : s = []
       · rw [if_pos (.inl h2), show (s == []) = true by rw [h2]; rfl]; rfl
       · have hpos : 0 < s.length := List.length_pos_iff.2 h2
         rw [show (s == []) = false by simpa using h2, cond_false, inB_ok (by omega) (by omega), cond_true]
         by_cases h3 : s.getD 0 0 = 35
         · rw [if_pos (.inr h3), show (((s.getD (0 : Int).toNat 0).toNat : Int) == 35) = true by
             show (((s.getD 0 0).toNat : Int) == 35) = true
             rw [h3]; rfl]; rfl
         · rw [if_neg (by rintro (h | h); exact h2 h; exact h3 h), show (((s.getD (0 : Int).toNat 0).toNat : Int) == 35) = false by
             show (((s.getD 0 0).toNat : Int) == 35) = false
             rw [beq_eq_false_iff_ne]
             intro e
             exact h3 (UInt8.toNat_inj.1 (by show (s.getD 0 0).toNat = 35; omega)), cond_false, decide_eq_true hs, cond_true]
           by_cases h4 : (readF s).1 = 0
           · rw [if_pos h4, show ((readF s).1 == 0) = true by simpa using h4]; rfl
           · rw [if_neg h4, show ((readF s).1 == 0) = false by simpa using h4]; rfl
   · cases h
 · cases h)
end Go.Proofs.YtpelignoebgkbaaDoor
/- Scripts: Parse: its loop. -/
namespace Go.Proofs.YtpelignoebgkbaaDoor
open Go.Am
set_option maxRecDepth 100000
noncomputable abbrev κP : Nat → Option CSumm := tbl [(15, line_s), (17, cnt_s), (18, split_s)]
theorem κPok : KOk Tryd.prog κP := tbl_cons line_k (tbl_cons cnt_k (tbl_cons split_k ok0))
def pF : List SV → Int → List SV × Int × Int
 | [], _ => ([], 0, 0)
 | l :: ls, i => bif (lineF (asS l)).2.2.1 != 0 then ([], (lineF (asS l)).2.2.1, i) else ((bif (lineF (asS l)).2.1 then .agg (lineF (asS l)).1.cs :: (pF ls (i + 1)).1 else (pF ls (i + 1)).1), (pF ls (i + 1)).2)
def plOk (ls : List SV) (n i : Int) (m : Nat) (es : List SV) : Prop := n = ls.length ∧ 0 ≤ i ∧ i ≤ n ∧ m = es.length ∧ (m : Int) ≤ i ∧ n ≤ 2000000 ∧ ∀ l ∈ ls, (asS l).length ≤ 1000000
noncomputable def body8 : Code := Tryd.f8.body.getD .skip
noncomputable def c8 : Code := (loopAt 5 body8).getD .skip
def plX (es : List SV) : CTree := .ret (.tup [.int .i64 2, .junk, .ptr 0 0, .qs 2 8 0 es.length]) [(1, none), (2, some (.seq 38 es))]
def plR (e a : Int) : CTree := .ret (.tup [.int .i64 1, .nils, .ptr 0 0, .junk]) [(0, some (.cells 27 [.int .i64 e, .int .i64 a])), (1, none)]
noncomputable def pl_s : CSumm := fun args H => match args, H with
 | [.psl 9 ls, .int .i64 n, .int .i64 i, .ptr 0 0, .qs 1 8 0 m], [(0, .cells 27 [.int .i64 _, .int .i64 _]), (1, .seq 38 es)] => .ite (dec (plOk ls n i m es)) (.ite ((pF (ls.drop i.toNat) i).2.1 == 0) (plX (es ++ (pF (ls.drop i.toNat) i).1)) (plR (pF (ls.drop i.toNat) i).2.1 (pF (ls.drop i.toNat) i).2.2)) .fail
 | _, _ => .fail
def plM : List SV → HpL → Nat
 | _ :: .int _ n :: .int _ i :: _, _ => (n - i).toNat
 | _, _ => 0
noncomputable def e8 : LEnt := { ins := [15, 16, 17, 3, 4], outs := [2, 3, 4], keep := [], size := 43, code := c8, s := pl_s }
def plR' (e a : Int) : CTree := .ret (.tup [.int .i64 1, .nils, .ptr 0 0, .junk]) [(1, none), (0, some (.cells 27 [.int .i64 e, .int .i64 a]))]
noncomputable def plN' (N : Nat) (ls es : List SV) (n i : Int) (m : Nat) : CTree := bif Nat.blt (n - i).toNat N then bif dec (plOk ls n i m es) then bif (pF (ls.drop i.toNat) i).2.1 == 0 then plX (es ++ (pF (ls.drop i.toNat) i).1) else plR' (pF (ls.drop i.toNat) i).2.1 (pF (ls.drop i.toNat) i).2.2 else .fail else .fail
noncomputable def plN (N : Nat) (ls es : List SV) (n i : Int) (m : Nat) : CTree := bif Nat.blt (n - i).toNat N then bif dec (plOk ls n i m es) then bif (pF (ls.drop i.toNat) i).2.1 == 0 then plX (es ++ (pF (ls.drop i.toNat) i).1) else plR (pF (ls.drop i.toNat) i).2.1 (pF (ls.drop i.toNat) i).2.2 else .fail else .fail
theorem pl_t (N : Nat) (ls es : List SV) (n i e0 a0 : Int) (m : Nat) : loopOnce Tryd.prog κP (fun _ => false) (ltab []) true 300 e8 { e8 with s := boundT plM pl_s N } c8 [.psl 9 ls, .int .i64 n, .int .i64 i, .ptr 0 0, .qs 1 8 0 m] [(0, .cells 27 [.int .i64 e0, .int .i64 a0]), (1, .seq 38 es)] =
 bif decide (i < n) then bif inB i ls.length then bif decide ((asS (ls.getD i.toNat .junk)).length ≤ 1000000) then
  bif (lineF (asS (ls.getD i.toNat .junk))).2.2.1 != 0 then .ret (.tup [.int .i64 1, .nils, .ptr 0 0, .qs 1 8 0 m]) [(0, some (.cells 27 [.int .i64 (lineF (asS (ls.getD i.toNat .junk))).2.2.1, .int .i64 i]))] else
  bif (lineF (asS (ls.getD i.toNat .junk))).2.1 then
   bif decide (m = es.length) then bif decide (es.length + 1 ≤ 9223372036854775807) && decide ((es.length + 1) * Tryd.prog.types[38].bytes ≤ 140737488355328) then
    plN N ls (es ++ [.agg (lineF (asS (ls.getD i.toNat .junk))).1.cs]) n (w64 (i + 1)) (es.length + 1)
   else .fail else .fail
  else plN' N ls es n (w64 (i + 1)) m
 else .fail else .fail
 else .ret (.tup [.int .i64 2, .junk, .ptr 0 0, .qs 1 8 0 m]) [] := by kernel_rfl
end Go.Proofs.YtpelignoebgkbaaDoor
/- Scripts: Parse, known. -/
namespace Go.Proofs.YtpelignoebgkbaaDoor
open Go.Am
set_option maxRecDepth 100000
theorem b38 : decide (Tryd.prog.types[38].bytes ≤ 1000) = true := by kernel_rfl
theorem pl_exit {es : List SV} {e0 a0 : Int} : ChainL Tryd.prog [(0, .cells 27 [.int .i64 e0, .int .i64 a0]), (1, .seq 38 es)] (.tup [.int .i64 2, .junk, .ptr 0 0, .qs 1 8 0 es.length]) [] (.tup [.int .i64 2, .junk, .ptr 0 0, .qs 2 8 0 es.length]) [(1, none), (2, some (.seq 38 es))] := by
 refine .ren ⟨1, 2, by simp, by simp [namesS, namesL], fun x c hx => ?_, rfl, fun x => ?_⟩
 · simp only [updF] at hx
   have := HpL_get_some _ _ _ hx
   simp only [List.mem_cons, Prod.mk.injEq, List.not_mem_nil, or_false] at this
   rcases this with ⟨_, rfl⟩ | ⟨_, rfl⟩ <;> simp [namesC, namesL, namesS]
 · match x with
   | 0 => rfl | 1 => rfl | 2 => rfl
   | x + 3 => simp only [updF, HpL.get, show ¬ (x + 3 = 2) by omega, show ¬ (x + 3 = 1) by omega, if_false, show Nat.beq 0 (x + 3) = false from nb_f (by omega), show Nat.beq 1 (x + 3) = false from nb_f (by omega), cond_false, Option.map_none]
theorem pl_ret {es : List SV} {e0 a0 e a : Int} {m : Nat} : ChainL Tryd.prog [(0, .cells 27 [.int .i64 e0, .int .i64 a0]), (1, .seq 38 es)] (.tup [.int .i64 1, .nils, .ptr 0 0, .qs 1 8 0 m]) [(0, some (.cells 27 [.int .i64 e, .int .i64 a]))] (.tup [.int .i64 1, .nils, .ptr 0 0, .junk]) [(0, some (.cells 27 [.int .i64 e, .int .i64 a])), (1, none)] := by
 refine .told ⟨1, [.nils, .ptr 0 0, .qs 1 8 0 m], [.nils, .ptr 0 0, .junk], rfl, rfl, .cons .rfl' (.cons .rfl' (.cons (fun _ _ _ _ _ _ => .junk) .nil)), fun x c' hx => ?_⟩
 match x with
 | 0 => exact ⟨_, hx, .rfl'⟩
 | 1 => simp [updF] at hx
 | x + 2 => simp only [updF, HpL.get, show ¬ (x + 2 = 1) by omega, show ¬ (x + 2 = 0) by omega, if_false, show Nat.beq 0 (x + 2) = false from nb_f (by omega), show Nat.beq 1 (x + 2) = false from nb_f (by omega), cond_false] at hx; cases hx
theorem pl_flip {H : HpL} {e a : Int} {v' : SV} {ups' : List (Nat × Option Chunk)} (h : crun (plR e a) = some (v', ups')) : ∃ ups, crun (plR' e a) = some (v', ups) ∧ ∀ x, updF ups' H.get x = updF ups H.get x := by
 cases h
 refine ⟨_, rfl, fun x => ?_⟩
 match x with
 | 0 => rfl | 1 => rfl
 | x + 2 => rfl
theorem pl_valid : ValidL Tryd.prog e8 := loop_valid5 (T := ltab []) (sp := true) (fuel := 300) (c := c8) (μ := plM) mixTry ltab_nil (show fillC (ltab []) c8 = c8 by kernel_rfl) (by
 intro N args H v' ups' hbt hr
 unfold e8 pl_s at hr
 simp only [] at hr
 split at hr
 · rename_i ls n i m e0 a0 es
   rw [crun_ite] at hr
   cases hc : dec (plOk ls n i m es) with
   | false => rw [hc] at hr; cases hr
   | true =>
    rw [hc, cond_true] at hr
    obtain ⟨rfl, i0, i1, rfl, mi, nl, hls⟩ := dec_iff.1 hc
    have hN : Nat.blt ((ls.length : Int) - i).toNat (N + 1) = true := hbt
    rw [Nat.blt_eq] at hN
    refine ⟨κP, fun _ => false, κPok, ?_⟩
    have ht := pl_t N ls es ls.length i e0 a0 es.length
    obtain ⟨k, rfl⟩ := Int.eq_ofNat_of_zero_le i0
    have hk : ((k : Nat) : Int).toNat = k := rfl
    rw [hk] at hr ht
    by_cases hi : (k : Int) < ls.length
    · have hkl : k < ls.length := by omega
      have hlk : (asS (ls.getD k .junk)).length ≤ 1000000 := hls _ (by simp [List.getD_eq_getElem?_getD, hkl])
      rw [decide_eq_true hi, cond_true, inB_ok (by omega) (by omega), cond_true, decide_eq_true hlk, cond_true] at ht
      rw [getD_cons' hkl, pF] at hr
      have e1 : w64 ((k : Int) + 1) = ((k + 1 : Nat) : Int) := (w64_id (by omega) (by omega)).trans (by omega)
      generalize hL : lineF (asS (ls.getD k .junk)) = L at hr ht
      cases he : L.2.2.1 != 0 with
      | true =>
       rw [he, cond_true] at ht hr
       have : (L.2.2.1 == 0) = false := by simpa [bne] using he
       rw [crun_ite, this, cond_false] at hr
       refine ⟨_, _, congrArg crun ht, ?_⟩
       simp only [plR, crun] at hr
       cases hr
       exact pl_ret
      | false =>
       rw [he, cond_false] at ht hr
       have hb := of_decide_eq_true b38
       have hb2 : (es.length + 1) * Tryd.prog.types[38].bytes ≤ (es.length + 1) * 1000 := Nat.mul_le_mul_left _ hb
       cases hs : L.2.1 with
       | true =>
        rw [hs, cond_true] at ht hr
        rw [decide_eq_true rfl, cond_true, decide_eq_true (show es.length + 1 ≤ 9223372036854775807 by omega), decide_eq_true (show (es.length + 1) * Tryd.prog.types[38].bytes ≤ 140737488355328 by omega), Bool.and_self, cond_true, e1] at ht
        unfold plN at ht
        rw [show Nat.blt ((ls.length : Int) - ((k + 1 : Nat) : Int)).toNat N = true by rw [Nat.blt_eq]; omega, cond_true, dec_iff.2 ⟨rfl, by omega, by omega, by simp, by omega, nl, hls⟩, cond_true, show ((k + 1 : Nat) : Int).toNat = k + 1 from rfl] at ht
        refine ⟨v', ups', (congrArg crun ht).trans ?_, .same fun _ => rfl⟩
        rw [crun_cond]
        rw [crun_ite] at hr
        simp only [List.append_assoc, List.singleton_append]
        exact hr
       | false =>
        rw [hs, cond_false] at ht hr
        rw [e1] at ht
        unfold plN' at ht
        rw [show Nat.blt ((ls.length : Int) - ((k + 1 : Nat) : Int)).toNat N = true by rw [Nat.blt_eq]; omega, cond_true, dec_iff.2 ⟨rfl, by omega, by omega, rfl, by omega, nl, hls⟩, cond_true, show ((k + 1 : Nat) : Int).toNat = k + 1 from rfl] at ht
        rw [crun_ite] at hr
        have hcast : ((k : Nat) : Int) + 1 = ((k + 1 : Nat) : Int) := by omega
        rw [hcast] at hr
        cases hq : ((pF (ls.drop (k + 1)) ((k + 1 : Nat) : Int)).2.1 == 0) with
        | true =>
         rw [hq, cond_true] at ht hr
         exact ⟨v', ups', (congrArg crun ht).trans hr, .same fun _ => rfl⟩
        | false =>
         rw [hq, cond_false] at ht hr
         obtain ⟨ups, g1, g2⟩ := pl_flip (H := [(0, .cells 27 [.int .i64 e0, .int .i64 a0]), (1, .seq 38 es)]) hr
         exact ⟨v', ups, (congrArg crun ht).trans g1, .same g2⟩
    · rw [decide_eq_false hi, cond_false] at ht
      have : ls.drop k = [] := List.drop_eq_nil_of_le (by omega)
      rw [this] at hr
      refine ⟨_, _, congrArg crun ht, ?_⟩
      simp only [pF, List.append_nil, plX, crun, beq_self_eq_true, if_true] at hr
      cases hr
      exact pl_exit
 · cases hr)
abbrev fs8 : List (Option (Nat × Nat)) := [none, none, none, none, some (38, 8)]
noncomputable def e8j : LEnt := { e8 with s := inN fs8 pl_s }
theorem pl_in : ValidL Tryd.prog e8j := loop_inN pl_valid (fs := fs8)
noncomputable abbrev T8 : LTab := ltab [("p", e8j)]
noncomputable abbrev m8 : Code := markC [(5, "p")] body8
noncomputable def parse_b : CSumm := bodyCL Tryd.prog κP (fun _ => false) T8 true 300 Tryd.f8 m8
theorem parse_k0 : Known Tryd.prog 8 parse_b := ⟨⟨Tryd.f8, Tryd.func8, noNum_at noNumTry Tryd.func8, rfl⟩, bodyL_valid κPok mixTry (ltab_cons pl_in ltab_nil) Tryd.func8 (show Tryd.f8.body = some (fillC T8 m8) by kernel_rfl)⟩
def paQ (r : List SV × Int × Int) : CTree := bif r.2.1 == 0 then .ret (.tup [.qs 0 8 0 r.1.length, .agg [.int .i64 0, .int .i64 0]]) [(0, some (.seq 38 r.1))] else .ret (.tup [.nils, .agg [.int .i64 r.2.1, .int .i64 r.2.2]]) []
theorem parse_t (s : List UInt8) : parse_b [.str s] [] = bif decide ((Lib.countByte s 10 : Int) ≥ 1000) then .ret (.tup [.nils, .agg [.int .i64 5, .int .i64 1000]]) [] else
 bif decide (s.length ≤ 1000000) then bif dec (plOk ((spl 10 s).map SV.str) ((spl 10 s).map SV.str).length 0 0 []) then paQ (pF (((spl 10 s).map SV.str).drop (0 : Int).toNat) 0) else .fail else .fail := by kernel_rfl
end Go.Proofs.YtpelignoebgkbaaDoor
/- Scripts: Parse, plainly. -/
namespace Go.Proofs.YtpelignoebgkbaaDoor
open Go.Am
set_option maxRecDepth 100000
def csv (x : Cmd) : SV := .agg x.cs
def pL : List (List UInt8) → Int → List Cmd × Int × Int
 | [], _ => ([], 0, 0)
 | l :: ls, i => if (lineF l).2.2.1 = 0 then ((if (lineF l).2.1 then (lineF l).1 :: (pL ls (i + 1)).1 else (pL ls (i + 1)).1), (pL ls (i + 1)).2) else ([], (lineF l).2.2.1, i)
theorem pF_eq : ∀ (ls : List (List UInt8)) (i : Int), pF (ls.map SV.str) i = ((pL ls i).1.map csv, (pL ls i).2)
 | [], _ => rfl
 | l :: ls, i => by
  simp only [List.map_cons, pF, pL]
  have e : asS (SV.str l) = l := rfl
  rw [e, pF_eq ls]
  by_cases h : (lineF l).2.2.1 = 0
  · rw [show ((lineF l).2.2.1 != 0) = false by simpa using h, cond_false, if_pos h]
    cases (lineF l).2.1 <;> rfl
  · rw [show ((lineF l).2.2.1 != 0) = true by simpa using h, cond_true, if_neg h]
    rfl
def parseF (s : List UInt8) : List Cmd × Int × Int :=
 if 1000 ≤ Lib.countByte s 10 then ([], 5, 1000) else if (pL (spl 10 s) 0).2.1 = 0 then ((pL (spl 10 s) 0).1, 0, 0) else ([], (pL (spl 10 s) 0).2)
noncomputable def parse_s : CSumm := fun args H => match args, H with
 | [.str s], [] => .ite (decide (s.length ≤ 1000000)) (.ret (.tup [.psl 38 ((parseF s).1.map csv), .agg [.int .i64 (parseF s).2.1, .int .i64 (parseF s).2.2]]) []) .fail
 | _, _ => .fail
theorem parse_k : Known Tryd.prog 8 parse_s := known_told parse_k0 (by
 intro args H v' ups' h
 unfold parse_s at h
 split at h
 · rename_i s
   rw [crun_ite, cond_eq_ite] at h
   split at h
   · rename_i hc
     have hs := of_decide_eq_true hc
     have ht := parse_t s
     have hd : ((spl 10 s).map SV.str).drop (0 : Int).toNat = (spl 10 s).map SV.str := rfl
     rw [hd] at ht
     unfold parseF at h
     by_cases h1 : 1000 ≤ Lib.countByte s 10
     · rw [decide_eq_true (show (Lib.countByte s 10 : Int) ≥ 1000 by omega), cond_true] at ht
       rw [if_pos h1] at h
       cases h
       refine ⟨_, _, congrArg crun ht, .inr ⟨.tup (.cons .nils (.cons .rfl' .nil)), fun x c' hx => ⟨c', hx, .rfl'⟩⟩⟩
     · have hl := splR_len 10 s []
       have he := splR_each 10 s []
       rw [decide_eq_false (show ¬ (Lib.countByte s 10 : Int) ≥ 1000 by omega), cond_false, decide_eq_true hs, cond_true, dec_iff.2 ⟨rfl, Int.le_refl _, by omega, rfl, by simp, by unfold spl; simp; omega, fun l hl => by
        obtain ⟨w, hw, rfl⟩ := List.mem_map.1 hl
        have := he w hw
        show w.length ≤ 1000000
        simp at this; omega⟩, cond_true, pF_eq] at ht
       rw [if_neg h1] at h
       unfold paQ at ht
       by_cases h2 : (pL (spl 10 s) 0).2.1 = 0
       · rw [show ((pL (spl 10 s) 0).2.1 == 0) = true by simpa using h2, cond_true] at ht
         rw [if_pos h2] at h
         cases h
         refine ⟨_, _, congrArg crun ht, .inl ⟨0, 38, _, rfl, .tup (.cons (.qs rfl) (.cons .rfl' .nil)), fun x c' hx => ?_⟩⟩
         simp [updF, HpL.get] at hx
       · rw [show ((pL (spl 10 s) 0).2.1 == 0) = false by simpa using h2, cond_false] at ht
         rw [if_neg h2] at h
         cases h
         refine ⟨_, _, congrArg crun ht, .inr ⟨.tup (.cons .nils (.cons .rfl' .nil)), fun x c' hx => ⟨c', hx, .rfl'⟩⟩⟩
   · cases h
 · cases h)
/- Equal commands. -/
def cEq (x y : SV) : Bool := asI (cellAt x 0) == asI (cellAt y 0) && (asI (cellAt x (0 + 1)) == asI (cellAt y (0 + 1)) && (asI (cellAt x (0 + 1 + 1)) == asI (cellAt y (0 + 1 + 1)) && (asI (cellAt x (0 + 1 + 1 + 1)) == asI (cellAt y (0 + 1 + 1 + 1)) && (asB (cellAt x (0 + 1 + 1 + 1 + 1)) == asB (cellAt y (0 + 1 + 1 + 1 + 1)) &&
 (asI (cellAt x (0 + 1 + 1 + 1 + 1 + 1)) == asI (cellAt y (0 + 1 + 1 + 1 + 1 + 1)) && (asI (cellAt x (0 + 1 + 1 + 1 + 1 + 1 + 1)) == asI (cellAt y (0 + 1 + 1 + 1 + 1 + 1 + 1)) && asI (cellAt x (0 + 1 + 1 + 1 + 1 + 1 + 1 + 1)) == asI (cellAt y (0 + 1 + 1 + 1 + 1 + 1 + 1 + 1))))))))
def eqF : List SV → List SV → Bool
 | [], _ => true
 | _, [] => true
 | x :: xs, y :: ys => bif cEq x y then eqF xs ys else false
def smOk (xs ys : List SV) (i : Int) : Prop := xs.length = ys.length ∧ 0 ≤ i ∧ i ≤ xs.length ∧ xs.length ≤ 1000000000
noncomputable def body10 : Code := Tryd.f10.body.getD .skip
noncomputable def c10 : Code := (loopAt 4 body10).getD .skip
noncomputable def sm_s : CSumm := fun args H => match args, H with
 | [.psl 38 xs, .psl 38 ys, .int .i64 i], [] => .ite (dec (smOk xs ys i)) (.ite (eqF (xs.drop i.toNat) (ys.drop i.toNat)) (.ret (.tup [.int .i64 2, .junk]) []) (.ret (.tup [.int .i64 1, .bool false]) [])) .fail
 | _, _ => .fail
def smM : List SV → HpL → Nat
 | [.psl _ xs, _, .int _ i], _ => ((xs.length : Int) - i).toNat
 | _, _ => 0
noncomputable def e10 : LEnt := { ins := [0, 1, 5], outs := [4], keep := [], size := 26, code := c10, s := sm_s }
noncomputable def smN (N : Nat) (xs ys : List SV) (i : Int) : CTree := bif Nat.blt ((xs.length : Int) - i).toNat N then bif dec (smOk xs ys i) then bif eqF (xs.drop i.toNat) (ys.drop i.toNat) then .ret (.tup [.int .i64 2, .junk]) [] else .ret (.tup [.int .i64 1, .bool false]) [] else .fail else .fail
theorem sm_t (N : Nat) (xs ys : List SV) (i : Int) : loopOnce Tryd.prog κe (fun _ => false) (ltab []) true 300 e10 { e10 with s := boundT smM sm_s N } c10 [.psl 38 xs, .psl 38 ys, .int .i64 i] [] =
 bif decide (i < xs.length) then bif inB i xs.length then bif inB i ys.length then bif !(cEq (xs.getD i.toNat .junk) (ys.getD i.toNat .junk)) then .ret (.tup [.int .i64 1, .bool false]) [] else smN N xs ys (w64 (i + 1)) else .fail else .fail
 else .ret (.tup [.int .i64 2, .junk]) [] := by kernel_rfl
end Go.Proofs.YtpelignoebgkbaaDoor
/- Scripts: two lists of commands are held against one another. -/
namespace Go.Proofs.YtpelignoebgkbaaDoor
open Go.Am
set_option maxRecDepth 100000
theorem sm_valid : ValidL Tryd.prog e10 := loop_valid5 (T := ltab []) (sp := true) (fuel := 300) (c := c10) (μ := smM) mixTry ltab_nil (show fillC (ltab []) c10 = c10 by kernel_rfl) (by
 intro N args H v' ups' hbt hr
 unfold e10 sm_s at hr
 simp only [] at hr
 split at hr
 · rename_i xs ys i
   rw [crun_ite] at hr
   cases hc : dec (smOk xs ys i) with
   | false => rw [hc] at hr; cases hr
   | true =>
    rw [hc, cond_true] at hr
    obtain ⟨hl, i0, i1, nl⟩ := dec_iff.1 hc
    have hN : Nat.blt ((xs.length : Int) - i).toNat (N + 1) = true := hbt
    rw [Nat.blt_eq] at hN
    refine ⟨κe, fun _ => false, κeOk, ?_⟩
    have ht := sm_t N xs ys i
    obtain ⟨k, rfl⟩ := Int.eq_ofNat_of_zero_le i0
    have hk : ((k : Nat) : Int).toNat = k := rfl
    rw [hk] at hr ht
    refine ⟨v', ups', (congrArg crun ht).trans ?_, .same fun _ => rfl⟩
    by_cases hi : (k : Int) < xs.length
    · rw [decide_eq_true hi, cond_true, inB_ok (by omega) (by omega), cond_true, inB_ok (by omega) (by omega), cond_true]
      rw [getD_cons' (es := xs) (by omega), getD_cons' (es := ys) (by omega), eqF] at hr
      cases hq : cEq (xs.getD k .junk) (ys.getD k .junk) with
      | false => rw [hq] at hr; exact hr
      | true =>
       rw [hq, cond_true] at hr
       rw [Bool.not_true, cond_false, show w64 ((k : Int) + 1) = ((k + 1 : Nat) : Int) from (w64_id (by omega) (by omega)).trans (by omega)]
       unfold smN
       rw [show Nat.blt ((xs.length : Int) - ((k + 1 : Nat) : Int)).toNat N = true by rw [Nat.blt_eq]; omega, cond_true, dec_iff.2 ⟨hl, by omega, by omega, nl⟩, cond_true, show ((k + 1 : Nat) : Int).toNat = k + 1 from rfl, crun_cond]
       rw [crun_ite] at hr
       exact hr
    · rw [decide_eq_false hi, cond_false]
      have : xs.drop k = [] := List.drop_eq_nil_of_le (by omega)
      rw [this, eqF] at hr
      exact hr
 · cases hr)
noncomputable abbrev T10 : LTab := ltab [("m", e10)]
noncomputable abbrev m10 : Code := markC [(4, "m")] body10
noncomputable def same_b : CSumm := bodyCL Tryd.prog κe (fun _ => false) T10 true 300 Tryd.f10 m10
theorem same_k0 : Known Tryd.prog 10 same_b := ⟨⟨Tryd.f10, Tryd.func10, noNum_at noNumTry Tryd.func10, rfl⟩, bodyL_valid κeOk mixTry (ltab_cons sm_valid ltab_nil) Tryd.func10 (show Tryd.f10.body = some (fillC T10 m10) by kernel_rfl)⟩
theorem same_t (xs ys : List SV) : same_b [.psl 38 xs, .psl 38 ys] [] = bif ((xs.length : Int) != ys.length) then .ret (.bool false) [] else bif dec (smOk xs ys 0) then bif eqF (xs.drop (0 : Int).toNat) (ys.drop (0 : Int).toNat) then .ret (.bool true) [] else .ret (.bool false) [] else .fail := by kernel_rfl
def sameB (xs ys : List SV) : Bool := bif ((xs.length : Int) != ys.length) then false else eqF xs ys
def smSz (xs : List SV) : Prop := xs.length ≤ 1000000000
noncomputable def same_s : CSumm := fun args H => match args, H with
 | [.psl 38 xs, .psl 38 ys], [] => .ite (dec (smSz xs)) (.ret (.bool (sameB xs ys)) []) .fail
 | _, _ => .fail
theorem same_k : Known Tryd.prog 10 same_s := same_k0.weak (by
 intro args H v ups h
 unfold same_s at h
 split at h
 · rename_i xs ys
   rw [crun_ite] at h
   cases hc : dec (smSz xs) with
   | false => rw [hc] at h; cases h
   | true =>
    rw [hc, cond_true] at h
    refine (congrArg crun (same_t xs ys)).trans ?_
    rw [← h]
    unfold sameB
    by_cases hl : xs.length = ys.length
    · rw [show ((xs.length : Int) != ys.length) = false by rw [hl]; simp, cond_false, cond_false, dec_iff.2 ⟨hl, Int.le_refl _, by omega, dec_iff.1 hc⟩, cond_true]
      show crun (bif eqF xs ys then _ else _) = _
      cases eqF xs ys <;> rfl
    · rw [show ((xs.length : Int) != ys.length) = true by simp; omega]
      rfl
 · cases h)
noncomputable def sameq_s : CSumm := fun args H => match args, H with
 | [.psl 38 xs, .qs 0 8 0 n], [(0, .seq 38 ys)] => .ite (dec (smSz xs ∧ n = ys.length)) (.ret (.bool (sameB xs ys)) []) .fail
 | _, _ => .fail
theorem sameq_k : Known Tryd.prog 10 sameq_s := known_view2 same_k (by
 intro args H v ups h
 unfold sameq_s at h
 split at h
 · rename_i xs n ys
   rw [crun_ite] at h
   cases hc : dec (smSz xs ∧ n = ys.length) with
   | false => rw [hc] at h; cases h
   | true =>
    rw [hc, cond_true] at h
    obtain ⟨h1, rfl⟩ := dec_iff.1 hc
    cases h
    refine ⟨[.psl 38 xs], 38, ys, 0, ys.length, 8, rfl, rfl, by kernel_rfl, by omega, rfl, rfl, fun _ => rfl, ?_⟩
    rw [List.drop_zero, List.take_length]
    show crun (.ite (dec (smSz xs)) (.ret (.bool (sameB xs ys)) []) .fail) = _
    rw [crun_ite, dec_iff.2 h1]; rfl
 · cases h)
theorem eqF_self : ∀ (xs : List SV), eqF xs xs = true
 | [] => rfl
 | x :: xs => by simp [eqF, cEq, eqF_self xs]
theorem sameB_self (xs : List SV) : sameB xs xs = true := by simp [sameB, eqF_self]
end Go.Proofs.YtpelignoebgkbaaDoor
