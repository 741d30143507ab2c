/- Scripts: a line is read, plainly. -/
import Derived.Test.YtpelignoebgkbaaDoorPart4
import Derived.Test.YtpelignoebgkbaaDoorMachine9
import Derived.Test.YtpelignoebgkbaaDoorPart1
import Derived.Test.YtpelignoebgkbaaDoorMachine6
import Derived.Test.YtpelignoebgkbaaDoorPart3
set_option linter.unusedVariables false
set_option linter.unusedSimpArgs false
namespace Go.Proofs.YtpelignoebgkbaaDoor
open Go.Am
set_option maxRecDepth 100000
def cmd0' (k : Int) : Cmd := ⟨k, 0, 0, 0, false, 0, 0, 0⟩
def brF (n : Int) : List Nat → Cmd → List (List UInt8 × Int) → Int × Int × Cmd
 | [], x, [] => (0, 0, x)
 | [], x, w :: _ => (19, w.2, x)
 | _ :: _, x, [] => (19, n, x)
 | q :: qs, x, w :: ws => if (rdW q w.1 x).1 = 0 then brF n qs (rdW q w.1 x).2 ws else ((rdW q w.1 x).1, w.2, x)
def frmF (n : Int) (w : List UInt8 × Int) (ws : List (List UInt8 × Int)) : List (List UInt8 × Int × List Nat) → Int × Int × Cmd
 | [] => (8, 0, cmd0' 0)
 | f :: r => if f.1 = w.1 then brF n f.2.2 (cmd0' f.2.1) ws else frmF n w ws r
def readF (s : List UInt8) : Int × Int × Cmd :=
 match (words s).2, (words s).1 with
 | some p, _ => (19, p, cmd0' 0)
 | none, [] => (8, 0, cmd0' 0)
 | none, w :: ws => frmF s.length w ws formsL
def resT (r : Int × Int × Cmd) : CTree := bif r.1 == 0 then .ret (.tup [.bool true, .agg r.2.2.cs]) [] else raiseT r.1 r.2.1
theorem wS_wsv (w : List UInt8 × Int) : wS (wsv w) = w.1 := rfl
theorem wA_wsv (w : List UInt8 × Int) : wA (wsv w) = w.2 := rfl
theorem in0_cons (w : List UInt8 × Int) (ws : List (List UInt8 × Int)) (K : SV → CTree) : in0 ((w :: ws).map wsv) K = K (wsv w) := by
 unfold in0
 rw [inB_ok (Int.le_refl _) (by rw [List.length_map, List.length_cons]; omega), cond_true]
 rfl
theorem sl1_cons (w : List UInt8 × Int) (ws : List (List UInt8 × Int)) (K : List SV → CTree) : sl1 ((w :: ws).map wsv) K = K (ws.map wsv) := by
 unfold sl1
 rw [slB_ok (a := 1) (b := (((w :: ws).map wsv).length : Int)) (by omega) (by simp; omega) (Int.le_refl _), cond_true]
 congr 1
 show (ws.map wsv).take (((w :: ws).map wsv).length - 1) = _
 exact List.take_of_length_le (by simp)
theorem brT_eq (n : Int) : ∀ (qs : List Nat) (x : Cmd) (ws : List (List UInt8 × Int)), (∀ w ∈ ws, w.1.length ≤ 1000000) → crun (brT n qs x (ws.map wsv)) = crun (resT (brF n qs x ws))
 | [], x, [], _ => rfl
 | [], x, w :: ws, _ => by
  unfold brT brF
  rw [decide_eq_true (by rw [List.length_map, List.length_cons]; omega), cond_true, in0_cons]
  rfl
 | q :: qs, x, [], _ => by unfold brT brF; rfl
 | q :: qs, x, w :: ws, h => by
  have hw := h w (by simp)
  unfold brT brF
  rw [show ((((w :: ws).map wsv).length : Int) == 0) = false by rw [beq_eq_false_iff_ne]; simp; omega, cond_false, in0_cons, wS_wsv, wA_wsv, dec_iff.2 hw, cond_true, in0_cons, wS_wsv, dec_iff.2 hw, cond_true, sl1_cons]
  by_cases he : (rdW q w.1 x).1 = 0
  · rw [if_pos he, show ((rdW q w.1 x).1 == 0) = true by simpa using he, cond_true, cond_true]
    exact brT_eq n qs _ ws (fun v hv => h v (by simp [hv]))
  · rw [if_neg he, show ((rdW q w.1 x).1 == 0) = false by simpa using he, cond_false]
    unfold resT
    rw [show ((rdW q w.1 x).1 == 0) = false by simpa using he]
    rfl
theorem frmT_eq (n : Int) (w : List UInt8 × Int) (ws : List (List UInt8 × Int)) (h : ∀ v ∈ w :: ws, v.1.length ≤ 1000000) : ∀ (fs : List (List UInt8 × Int × List Nat)), crun (frmT n ((w :: ws).map wsv) fs) = crun (resT (frmF n w ws fs))
 | [] => rfl
 | f :: r => by
  unfold frmT frmF
  rw [in0_cons, in0_cons, wS_wsv, sl1_cons]
  by_cases he : f.1 = w.1
  · rw [if_pos he, show (f.1 == w.1) = true by simpa using he, Bool.not_true, cond_false]
    exact brT_eq n _ _ ws (fun v hv => h v (by simp [hv]))
  · rw [if_neg he, show (f.1 == w.1) = false by simpa using he, Bool.not_false, cond_true]
    exact frmT_eq n w ws h r
theorem wordsF_len : ∀ (l : List (List UInt8)) (a : Int) (B : Nat), (∀ w ∈ l, w.length ≤ B) → ∀ w ∈ (wordsF l a).1, w.1.length ≤ B
 | [], _, _, _, w, hw => by simp [wordsF] at hw
 | v :: l, a, B, h, w, hw => by
  unfold wordsF at hw
  split at hw
  · simp at hw
  · rcases List.mem_cons.1 hw with rfl | hw
    · exact h v (by simp)
    · exact wordsF_len l _ B (fun u hu => h u (by simp [hu])) w hw
theorem splR_each (c : Int) : ∀ (s cur : List UInt8), ∀ w ∈ splR c s cur, w.length ≤ s.length + cur.length
 | [], cur, w, hw => by simp [splR] at hw; simp [hw]
 | x :: xs, cur, w, hw => by
  rw [splR] at hw
  cases hx : ((x.toNat : Int) == c) with
  | true =>
   rw [hx, cond_true] at hw
   rcases List.mem_cons.1 hw with rfl | hw
   · simp
   · have := splR_each c xs [] w hw; simp at this ⊢; omega
  | false =>
   rw [hx, cond_false] at hw
   have := splR_each c xs (cur ++ [x]) w hw
   simp at this ⊢; omega
theorem words_len {s : List UInt8} : ∀ w ∈ (words s).1, w.1.length ≤ s.length :=
 wordsF_len _ 0 s.length (fun w hw => by have := splR_each 32 s [] w hw; simpa using this)
theorem words_some {s : List UInt8} (h : (words s).2 = none) : (words s).1 ≠ [] := by
 unfold words spl at *
 cases hq : splR 32 s [] with
 | nil =>
  have : ∀ (s cur : List UInt8), splR 32 s cur ≠ [] := by
   intro s
   induction s with
   | nil => intro cur; simp [splR]
   | cons x xs ih =>
    intro cur
    rw [splR]
    cases ((x.toNat : Int) == 32)
    · exact ih _
    · simp
  exact absurd hq (this s [])
 | cons v l =>
  rw [hq] at h
  unfold wordsF at h ⊢
  split at h
  · cases h
  · rename_i hv; simp [hv]
noncomputable def read_s : CSumm := fun args H => match args, H with
 | [.str s], [] => .ite (decide (s.length ≤ 1000000)) (.ite ((readF s).1 == 0) (.ret (.tup [.bool true, .agg (readF s).2.2.cs]) []) (.ret (.tup [.bool false, flt (readF s).1 (readF s).2.1]) [])) .fail
 | _, _ => .fail
theorem read_k : KnownX Tryd.prog 34 read_s := ⟨read_k0.fn, fun args H b v ups h => by
 refine read_k0.ok args H b v ups ?_
 unfold read_s at h
 split at h
 · rename_i s
   rw [crun_ite, cond_eq_ite] at h
   split at h
   · rename_i hc
     have hs := of_decide_eq_true hc
     rw [crun_ite] at h
     refine (congrArg crun (read_t s)).trans ?_
     rw [decide_eq_true hs, cond_true]
     have hres : crun (resT (readF s)) = some (.tup [.bool b, v], ups) := by unfold resT; rw [crun_cond]; exact h
     rw [← hres]
     unfold readF
     cases h2 : (words s).2 with
     | some p => rfl
     | none =>
      cases h1 : (words s).1 with
      | nil => exact absurd h1 (words_some h2)
      | cons w ws =>
       rw [Option.isSome, cond_false]
       exact frmT_eq s.length w ws (fun v hv => Nat.le_trans (words_len v (by rw [h1]; exact hv)) hs) formsL
   · cases h
 · cases h⟩
end Go.Proofs.YtpelignoebgkbaaDoor
/- Scripts: Line. -/
namespace Go.Proofs.YtpelignoebgkbaaDoor
open Go.Am
set_option maxRecDepth 100000
noncomputable abbrev πL : Nat → Option CSumm := tbl [(33, fail_s), (34, read_s)]
theorem πLok : XOk Tryd.prog πL := xtbl_cons fail_k (xtbl_cons read_k xtbl_nil)
noncomputable def line_b : CSumm := deferX Tryd.prog κR πL [2, 3, 4] 300 Tryd.f15 Tryd.f31 lnA lnB lcB 6 31 6 3 caps3
theorem line_k0 : Known Tryd.prog 15 line_b := ⟨⟨Tryd.f15, Tryd.func15, noNum_at noNumTry Tryd.func15, rfl⟩, deferX_valid κRok πLok mixTry Tryd.func15 dfr15 clo31⟩
def lnO (x : Cmd) (is : Bool) (e a : Int) : CTree := .ret (.tup [.agg x.cs, .bool is, .agg [.int .i64 e, .int .i64 a]]) []
theorem line_t (s : List UInt8) : line_b [.str s] [] =
 bif decide (Lib.indexByte s 10 ≥ 0) then lnO (cmd0' 0) false 19 (Lib.indexByte s 10) else
  bif s == [] then lnO (cmd0' 0) false 0 0 else bif inB 0 s.length then bif ((s.getD (0 : Int).toNat 0).toNat : Int) == 35 then lnO (cmd0' 0) false 0 0 else
   bif decide (s.length ≤ 1000000) then bif (readF s).1 == 0 then lnO (readF s).2.2 true 0 0 else lnO (cmd0' 0) false (readF s).1 (readF s).2.1 else .fail
  else .fail := by kernel_rfl
def lineF (s : List UInt8) : Cmd × Bool × Int × Int :=
 if 0 ≤ Lib.indexByte s 10 then (cmd0' 0, false, 19, Lib.indexByte s 10) else if s = [] ∨ s.getD 0 0 = 35 then (cmd0' 0, false, 0, 0)
 else if (readF s).1 = 0 then ((readF s).2.2, true, 0, 0) else (cmd0' 0, false, (readF s).1, (readF s).2.1)
noncomputable def line_s : CSumm := fun args H => match args, H with
 | [.str s], [] => .ite (decide (s.length ≤ 1000000)) (lnO (lineF s).1 (lineF s).2.1 (lineF s).2.2.1 (lineF s).2.2.2) .fail
 | _, _ => .fail
theorem line_k : Known Tryd.prog 15 line_s := line_k0.weak (by
 intro args H v ups h
 unfold line_s at h
 split at h
 · rename_i s
   rw [crun_ite, cond_eq_ite] at h
   split at h
   · rename_i hc
     have hs := of_decide_eq_true hc
     refine (congrArg crun (line_t s)).trans ?_
     rw [← h]
     unfold lineF
     by_cases h1 : 0 ≤ Lib.indexByte s 10
     · rw [if_pos h1, decide_eq_true (show Lib.indexByte s 10 ≥ 0 from h1)]; rfl
     · rw [if_neg h1, decide_eq_false (show ¬ Lib.indexByte s 10 ≥ 0 from h1), cond_false]
       by_cases h2 : s = []
       · rw [if_pos (.inl h2), show (s == []) = true by rw [h2]; rfl]; rfl
       · have hpos : 0 < s.length := List.length_pos_iff.2 h2
         rw [show (s == []) = false by simpa using h2, cond_false, inB_ok (by omega) (by omega), cond_true]
         by_cases h3 : s.getD 0 0 = 35
         · rw [if_pos (.inr h3), show (((s.getD (0 : Int).toNat 0).toNat : Int) == 35) = true by
             show (((s.getD 0 0).toNat : Int) == 35) = true
             rw [h3]; rfl]; rfl
         · rw [if_neg (by rintro (h | h); exact h2 h; exact h3 h), show (((s.getD (0 : Int).toNat 0).toNat : Int) == 35) = false by
             show (((s.getD 0 0).toNat : Int) == 35) = false
             rw [beq_eq_false_iff_ne]
             intro e
             exact h3 (UInt8.toNat_inj.1 (by show (s.getD 0 0).toNat = 35; omega)), cond_false, decide_eq_true hs, cond_true]
           by_cases h4 : (readF s).1 = 0
           · rw [if_pos h4, show ((readF s).1 == 0) = true by simpa using h4]; rfl
           · rw [if_neg h4, show ((readF s).1 == 0) = false by simpa using h4]; rfl
   · cases h
 · cases h)
end Go.Proofs.YtpelignoebgkbaaDoor
/- Scripts: Parse: its loop. -/
namespace Go.Proofs.YtpelignoebgkbaaDoor
open Go.Am
set_option maxRecDepth 100000
def pF : List SV → Int → List SV × Int × Int
 | [], _ => ([], 0, 0)
 | l :: ls, i => bif (lineF (asS l)).2.2.1 != 0 then ([], (lineF (asS l)).2.2.1, i) else ((bif (lineF (asS l)).2.1 then .agg (lineF (asS l)).1.cs :: (pF ls (i + 1)).1 else (pF ls (i + 1)).1), (pF ls (i + 1)).2)
def plOk (ls : List SV) (n i : Int) (m : Nat) (es : List SV) : Prop := n = ls.length ∧ 0 ≤ i ∧ i ≤ n ∧ m = es.length ∧ (m : Int) ≤ i ∧ n ≤ 2000000 ∧ ∀ l ∈ ls, (asS l).length ≤ 1000000
noncomputable def body8 : Code := Tryd.f8.body.getD .skip
noncomputable def c8 : Code := (loopAt 5 body8).getD .skip
def plX (es : List SV) : CTree := .ret (.tup [.int .i64 2, .junk, .ptr 0 0, .qs 2 8 0 es.length]) [(1, none), (2, some (.seq 38 es))]
def plR (e a : Int) : CTree := .ret (.tup [.int .i64 1, .nils, .ptr 0 0, .junk]) [(0, some (.cells 27 [.int .i64 e, .int .i64 a])), (1, none)]
noncomputable def pl_s : CSumm := fun args H => match args, H with
 | [.psl 9 ls, .int .i64 n, .int .i64 i, .ptr 0 0, .qs 1 8 0 m], [(0, .cells 27 [.int .i64 _, .int .i64 _]), (1, .seq 38 es)] => .ite (dec (plOk ls n i m es)) (.ite ((pF (ls.drop i.toNat) i).2.1 == 0) (plX (es ++ (pF (ls.drop i.toNat) i).1)) (plR (pF (ls.drop i.toNat) i).2.1 (pF (ls.drop i.toNat) i).2.2)) .fail
 | _, _ => .fail
noncomputable def e8 : LEnt := { ins := [15, 16, 17, 3, 4], outs := [2, 3, 4], keep := [], size := 43, code := c8, s := pl_s }
end Go.Proofs.YtpelignoebgkbaaDoor
/- Scripts: Parse, known. -/
namespace Go.Proofs.YtpelignoebgkbaaDoor
open Go.Am
set_option maxRecDepth 100000
end Go.Proofs.YtpelignoebgkbaaDoor
/- Scripts: Parse, plainly. -/
namespace Go.Proofs.YtpelignoebgkbaaDoor
open Go.Am
set_option maxRecDepth 100000
/- Equal commands. -/
noncomputable def body10 : Code := Tryd.f10.body.getD .skip
noncomputable def c10 : Code := (loopAt 4 body10).getD .skip
end Go.Proofs.YtpelignoebgkbaaDoor
/- Scripts: two lists of commands are held against one another. -/
namespace Go.Proofs.YtpelignoebgkbaaDoor
open Go.Am
set_option maxRecDepth 100000
end Go.Proofs.YtpelignoebgkbaaDoor
/- Scripts: the law of joins: its tree. -/
namespace Go.Proofs.YtpelignoebgkbaaDoor
open Go.Am
set_option maxRecDepth 100000
noncomputable def light_s : CSumm := fun args H => match args, H with
 | [.str s], [] => .ret (.bool (decide ((s.length : Int) ≤ 3000))) []
 | _, _ => .fail
theorem light_t (s : List UInt8) : opn (tbl []) Tryd.f7 [.str s] [] = .ret (.bool (decide ((s.length : Int) ≤ 3000))) [] := by kernel_rfl
theorem light_k : Known Tryd.prog 7 light_s := (openKnown ok0 Tryd.func7 rfl).weak (by
 intro args H v ups h
 unfold light_s at h
 split at h
 · exact (congrArg crun (light_t _)).trans h
 · cases h)
end Go.Proofs.YtpelignoebgkbaaDoor
/- Scripts: the law of joins answers true. -/
namespace Go.Proofs.YtpelignoebgkbaaDoor
open Go.Am
set_option maxRecDepth 100000
/- Lines. -/
theorem splR_app (c : UInt8) (b : List UInt8) : ∀ (a cur : List UInt8), splR (c.toNat : Int) (a ++ c :: b) cur = splR (c.toNat : Int) a cur ++ splR (c.toNat : Int) b []
 | [], cur => by simp [splR]
 | x :: a, cur => by
  rw [List.cons_append, splR, splR]
  cases ((x.toNat : Int) == (c.toNat : Int)) with
  | true => rw [cond_true, cond_true, splR_app c b a []]; rfl
  | false => rw [cond_false, cond_false, splR_app c b a _]
end Go.Proofs.YtpelignoebgkbaaDoor
/- Scripts: decimal numerals, known. -/
namespace Go.Proofs.YtpelignoebgkbaaDoor
open Go.Am
set_option maxRecDepth 100000
noncomputable def pg : Nat := (Tryd.prog.globalNamed "internal/strconv.uint64pow10").getD 0
theorem pg_n : Tryd.prog.globalNamed "internal/strconv.uint64pow10" = some pg := by kernel_rfl
theorem gtab_eq : gtab Tryd.prog = [(pg, Lib.pow10Tab.map fun z => (IntKind.u64, z))] := by kernel_rfl
theorem tab_of {w : World} {Im : Nat → Prop} (h : GlobR Tryd.prog w Im) : Lib.TabIs Tryd.prog w "internal/strconv.uint64pow10" .u64 Lib.pow10Tab := h.tab pg_n (by rw [gtab_eq]; simp)
noncomputable def itoa_s : CSumm := fun args _ => match args with
 | [.int .i64 n] => .ite (dec (-9223372036854775808 ≤ n ∧ n ≤ 9223372036854775807)) (.ret (.str (Lib.itoa n)) []) .fail
 | _ => .fail
theorem itoa_k : Known Tryd.prog 24 itoa_s := known_shelf Tryd.func24 noNumTry rfl (fun args H v ups h => by
 unfold itoa_s at h
 split at h
 · rename_i n
   simp only [crun] at h
   split at h
   · rename_i hd
     obtain ⟨h0, h1⟩ := dec_iff.1 hd
     cases h
     refine ⟨rfl, fun ω θ Im w us hl hH => ?_⟩
     obtain ⟨u, rfl, hu⟩ := hl.single
     cases hu
     refine (Any.strconv_Itoa Tryd.lays171 n h0 h1 w (tab_of hH.gl)).mono ?_
     rintro e w' ⟨rfl, k, os, rfl⟩
     exact ⟨_, rfl, below_grown k os, fun _ => .str rfl⟩
   · cases h
 · cases h)
noncomputable def fmtu_s : CSumm := fun args _ => match args with
 | [.int .u64 n, .int .i64 b] => .ite (dec (0 ≤ n ∧ n ≤ 18446744073709551615 ∧ b = 10)) (.ret (.str (Lib.decDigits n.toNat)) []) .fail
 | _ => .fail
theorem fmtu_k : Known Tryd.prog 29 fmtu_s := known_shelf Tryd.func29 noNumTry rfl (fun args H v ups h => by
 unfold fmtu_s at h
 split at h
 · rename_i n b
   simp only [crun] at h
   split at h
   · rename_i hd
     obtain ⟨h0, h1, rfl⟩ := dec_iff.1 hd
     cases h
     refine ⟨rfl, fun ω θ Im w us hl hH => ?_⟩
     obtain ⟨u, v, rfl, hu, hv⟩ := hl.pair
     cases hu; cases hv
     have hc := formatUint29 n.toNat (by omega) w (tab_of hH.gl)
     rw [show ((n.toNat : Nat) : Int) = n by omega] at hc
     refine hc.mono ?_
     rintro e w' ⟨rfl, k, os, rfl⟩
     exact ⟨_, rfl, below_grown k os, fun _ => .str rfl⟩
   · cases h
 · cases h)
end Go.Proofs.YtpelignoebgkbaaDoor
/- Groups of digits are written. -/
namespace Go.Proofs.YtpelignoebgkbaaDoor
open Go.Am
set_option maxRecDepth 100000
def figs : List UInt8 := [48, 49, 50, 51, 52, 53, 54, 55, 56, 57, 97, 98, 99, 100, 101, 102]
def andI (k : IntKind) (a b : Int) : Int := k.wrap (BitVec.ofInt k.bits a &&& BitVec.ofInt k.bits b).toNat
def hiD (x : Int) : Int := x.fdiv (2 ^ 4)
def loD (x : Int) : Int := andI .u8 x 15
def hx (n : Int) : UInt8 := UInt8.ofNat ((figs.getD n.toNat 0).toNat : Int).toNat
def pairsL : List Int → List UInt8
 | [] => []
 | [x] => [hx (hiD x), hx (loD x)]
 | x :: y :: r => hx (hiD x) :: hx (loD x) :: 58 :: pairsL (y :: r)
def pairsC : List Int → CTree → CTree
 | [], K => K
 | x :: r, K => bif inB (hiD x) figs.length then bif inB (loD x) figs.length then pairsC r K else .fail else .fail
def macL (m : Int) : List Int := [w8 (m.fdiv (2 ^ 40)), w8 (m.fdiv (2 ^ 32)), w8 (m.fdiv (2 ^ 24)), w8 (m.fdiv (2 ^ 16)), w8 (m.fdiv (2 ^ 8)), w8 (m.fdiv (2 ^ 0))]
theorem mact_t (m : Int) : opn (tbl []) Tryd.f45 [.int .u64 m] [] = bif decide (m > 281474976710655) then .ret (.tup [.str [], .int .i64 2]) [] else pairsC (macL m) (.ret (.tup [.str (pairsL (macL m)), .int .i64 0]) []) := by kernel_rfl
end Go.Proofs.YtpelignoebgkbaaDoor
/- Small decimal numbers are written: what the library's tables come to. -/
namespace Go.Proofs.YtpelignoebgkbaaDoor
open Go.Am
set_option maxRecDepth 100000
def eqUp : List (Nat × Option Chunk) → List (Nat × Option Chunk) → Bool
 | [], [] => true
 | (x, some c) :: l, (y, some d) :: m => Nat.beq x y && eqCh c d && eqUp l m
 | _, _ => false
theorem eqUp_eq : ∀ {a b : List (Nat × Option Chunk)}, eqUp a b = true → a = b
 | [], [], _ => rfl
 | [], _ :: _, h => by simp [eqUp] at h
 | (x, some c) :: l, [], h => by simp [eqUp] at h
 | (x, none) :: l, m, h => by cases m <;> simp [eqUp] at h
 | (x, some c) :: l, (y, none) :: m, h => by simp [eqUp] at h
 | (x, some c) :: l, (y, some d) :: m, h => by
  simp only [eqUp, Bool.and_eq_true] at h
  rw [Nat.eq_of_beq_eq_true h.1.1, eqCh_eq h.1.2, eqUp_eq h.2]
def eqR (v : SV) (ups : List (Nat × Option Chunk)) : Option (SV × List (Nat × Option Chunk)) → Bool
 | some (w, u) => eqSV v w && eqUp ups u
 | none => false
theorem eqR_eq {v : SV} {ups : List (Nat × Option Chunk)} {r : Option (SV × List (Nat × Option Chunk))} (h : eqR v ups r = true) : r = some (v, ups) := by
 unfold eqR at h
 split at h
 · simp only [Bool.and_eq_true] at h
   rw [← eqSV_eq h.1, ← eqUp_eq h.2]
 · cases h
theorem nd_all : ((List.range 156).all fun k => eqR (.int .i64 3) [] (crun (opn (tbl []) Tryd.f64 [.int .u64 ((100 + k : Nat) : Int)] []))) = true := by kernel_rfl
noncomputable def nd_s : CSumm := fun args H => match args, H with
 | [.int .u64 v], [] => .ite (decide (100 ≤ v ∧ v ≤ 255)) (.ret (.int .i64 3) []) .fail
 | _, _ => .fail
theorem nd_k : Known Tryd.prog 64 nd_s := (openKnown ok0 Tryd.func64 rfl).weak (by
 intro args H v ups h
 unfold nd_s at h
 split at h
 · rename_i n
   rw [crun_ite, cond_eq_ite] at h
   split at h
   · rename_i hc
     obtain ⟨h0, h1⟩ := of_decide_eq_true hc
     have := List.all_eq_true.1 nd_all (n - 100).toNat (List.mem_range.2 (by omega))
     rw [show ((100 + (n - 100).toNat : Nat) : Int) = n by omega] at this
     exact (eqR_eq this).trans h
   · cases h
 · cases h)
def zs24 : List SV := List.replicate 24 (.int .u8 0)
def d3 (v : Int) : List SV := [.int .u8 (48 + v / 100), .int .u8 (48 + v / 10 % 10), .int .u8 (48 + v % 10)]
theorem fb_all : ((List.range 156).all fun k => eqR (.tup []) [(0, some (.cells 128 (d3 ((100 + k : Nat) : Int) ++ List.replicate 21 (.int .u8 0))))] (crun (opn (tbl []) Tryd.f65 [.sl 0 1 0 3, .int .u64 ((100 + k : Nat) : Int)] [(0, .cells 128 zs24)]))) = true := by kernel_rfl
noncomputable def fb_s : CSumm := fun args H => match args, H with
 | [.sl 0 1 0 3, .int .u64 v], [(0, .cells 128 cs)] => .ite (dec (cs = zs24 ∧ 100 ≤ v ∧ v ≤ 255)) (.ret (.tup []) [(0, some (.cells 128 (d3 v ++ List.replicate 21 (.int .u8 0))))]) .fail
 | _, _ => .fail
theorem fb_k : Known Tryd.prog 65 fb_s := (openKnown ok0 Tryd.func65 rfl).weak (by
 intro args H v ups h
 unfold fb_s at h
 split at h
 · rename_i n cs
   rw [crun_ite] at h
   cases hc : dec (cs = zs24 ∧ 100 ≤ n ∧ n ≤ 255) with
   | false => rw [hc] at h; cases h
   | true =>
    rw [hc, cond_true] at h
    obtain ⟨rfl, h0, h1⟩ := dec_iff.1 hc
    have := List.all_eq_true.1 fb_all (n - 100).toNat (List.mem_range.2 (by omega))
    rw [show ((100 + (n - 100).toNat : Nat) : Int) = n by omega] at this
    exact (eqR_eq this).trans h
 · cases h)
end Go.Proofs.YtpelignoebgkbaaDoor
/- Small decimal numbers are written. -/
namespace Go.Proofs.YtpelignoebgkbaaDoor
open Go.Am
set_option maxRecDepth 100000
def chD (n : Int) : UInt8 := UInt8.ofNat (48 + n).toNat
def dcB (v : Int) : List UInt8 := bif decide (v < 10) then [chD v] else bif decide (v < 100) then [chD (v / 10), chD (v % 10)] else [chD (v / 100), chD (v / 10 % 10), chD (v % 10)]
theorem small_all : ((List.range 100).all fun k => eqR (.str (dcB (k : Nat))) [] (crun (opn (tbl []) Tryd.f63 [.int .i64 ((k : Nat) : Int)] []))) = true := by kernel_rfl
noncomputable def small_s : CSumm := fun args H => match args, H with
 | [.int .i64 v], [] => .ite (decide (0 ≤ v ∧ v < 100)) (.ret (.str (dcB v)) []) .fail
 | _, _ => .fail
theorem small_k : Known Tryd.prog 63 small_s := (openKnown ok0 Tryd.func63 rfl).weak (by
 intro args H v ups h
 unfold small_s at h
 split at h
 · rename_i n
   rw [crun_ite, cond_eq_ite] at h
   split at h
   · rename_i hc
     obtain ⟨h0, h1⟩ := of_decide_eq_true hc
     have := List.all_eq_true.1 small_all n.toNat (List.mem_range.2 (by omega))
     rw [show ((n.toNat : Nat) : Int) = n by omega] at this
     exact (eqR_eq this).trans h
   · cases h
 · cases h)
noncomputable def lenO (k : Nat) : Bool := decide (k ≤ 9223372036854775807) && decide (k * Tryd.prog.types[5].bytes ≤ 140737488355328)
theorem lenO_t {k : Nat} (h : k ≤ 1000000) : lenO k = true := by
 have hb : Tryd.prog.types[5].bytes = 1 := by kernel_rfl
 unfold lenO
 rw [hb, decide_eq_true (by omega), decide_eq_true (by omega)]; rfl
noncomputable def grC (es news : List SV) (K : Nat → List SV → CTree) : CTree := bif lenO (es.length + news.length) then K (es.length + news.length) (es ++ news) else .fail
noncomputable def auC (v : Int) (G : List SV → CTree) : CTree :=
 bif decide (v < 100) then bif decide (0 ≤ w64 v ∧ w64 v < 100) then G ((dcB (w64 v)).map byteSV) else .fail
 else bif decide (100 ≤ v ∧ v ≤ 255) then bif dec (zs24 = zs24 ∧ 100 ≤ v ∧ v ≤ 255) then G (d3 v) else .fail else .fail
noncomputable abbrev κau := tbl [(63, small_s), (64, nd_s), (65, fb_s), (66, noS)]
theorem auOk : KOk Tryd.prog κau := tbl_cons small_k (tbl_cons nd_k (tbl_cons fb_k (tbl_cons (no_k Tryd.func66 rfl) ok0)))
theorem au_t1 (v : Int) : opn κau Tryd.f62 [.nils, .int .u64 v, .int .i64 10] [] = auC v fun news => grC [] news fun n es => .ret (.qs 0 1 0 n) [(0, some (.seq 5 es))] := by kernel_rfl
theorem au_t2 (m : Nat) (xs : List SV) (v : Int) : opn κau Tryd.f62 [.qs 0 1 0 m, .int .u64 v, .int .i64 10] [(0, .seq 5 xs)] = auC v fun news => bif decide (m = xs.length) then grC xs news fun n es => .ret (.qs 1 1 0 n) [(0, none), (1, some (.seq 5 es))] else .fail := by kernel_rfl
end Go.Proofs.YtpelignoebgkbaaDoor
/- Addresses are written. -/
namespace Go.Proofs.YtpelignoebgkbaaDoor
open Go.Am
set_option maxRecDepth 100000
theorem chD_nat {n : Int} (h0 : 0 ≤ n) (h1 : n ≤ 9) : ((chD n).toNat : Int) = 48 + n := by
 unfold chD
 rw [UInt8.toNat_ofNat']
 omega
theorem byteSV_chD {n : Int} (h0 : 0 ≤ n) (h1 : n ≤ 9) : byteSV (chD n) = .int .u8 (48 + n) := by
 unfold byteSV; rw [chD_nat h0 h1]
theorem d3_eq {v : Int} (h0 : 100 ≤ v) (h1 : v ≤ 255) : d3 v = (dcB v).map byteSV := by
 unfold d3 dcB
 rw [decide_eq_false (by omega), cond_false, decide_eq_false (by omega), cond_false]
 simp only [List.map_cons, List.map_nil]
 rw [byteSV_chD (by omega) (by omega), byteSV_chD (by omega) (by omega), byteSV_chD (by omega) (by omega)]
theorem auC_ok {v : Int} (h0 : 0 ≤ v) (h1 : v ≤ 255) (G : List SV → CTree) : auC v G = G ((dcB v).map byteSV) := by
 unfold auC
 by_cases h : v < 100
 · rw [decide_eq_true h, cond_true, show w64 v = v from w64_id (by omega) (by omega), decide_eq_true ⟨h0, h⟩]; rfl
 · rw [decide_eq_false h, cond_false, decide_eq_true (show 100 ≤ v ∧ v ≤ 255 by omega), cond_true, dec_iff.2 ⟨rfl, by omega, h1⟩, cond_true, d3_eq (by omega) h1]
theorem dcB_len (v : Int) : (dcB v).length ≤ 3 := by
 unfold dcB
 cases decide (v < 10) <;> cases decide (v < 100) <;> simp
noncomputable def au_s : CSumm := fun args H => match args, H with
 | [.nils, .int .u64 v, .int .i64 10], [] => .ite (decide (0 ≤ v ∧ v ≤ 255)) (.ret (.qs 0 1 0 (dcB v).length) [(0, some (.seq 5 ((dcB v).map byteSV)))]) .fail
 | [.qs 0 1 0 m, .int .u64 v, .int .i64 10], [(0, .seq 5 xs)] => .ite (dec (m = xs.length ∧ xs.length ≤ 1000 ∧ 0 ≤ v ∧ v ≤ 255)) (.ret (.qs 1 1 0 (xs.length + (dcB v).length)) [(0, none), (1, some (.seq 5 (xs ++ (dcB v).map byteSV)))]) .fail
 | _, _ => .fail
theorem au_k0 : Known Tryd.prog 62 au_s := (openKnown auOk Tryd.func62 rfl).weak (by
 intro args H v ups h
 have hl := dcB_len
 unfold au_s at h
 split at h
 · rename_i n
   rw [crun_ite, cond_eq_ite] at h
   split at h
   · rename_i hc
     obtain ⟨h0, h1⟩ := of_decide_eq_true hc
     refine (congrArg crun (au_t1 n)).trans ?_
     rw [auC_ok h0 h1]
     unfold grC
     have := hl n
     rw [List.length_nil, Nat.zero_add, List.length_map, lenO_t (by omega), cond_true, List.nil_append]
     exact h
   · cases h
 · rename_i m n xs
   rw [crun_ite] at h
   cases hc : dec (m = xs.length ∧ xs.length ≤ 1000 ∧ 0 ≤ n ∧ n ≤ 255) with
   | false => rw [hc] at h; cases h
   | true =>
    rw [hc, cond_true] at h
    obtain ⟨rfl, hx, h0, h1⟩ := dec_iff.1 hc
    refine (congrArg crun (au_t2 xs.length xs n)).trans ?_
    rw [auC_ok h0 h1, decide_eq_true rfl, cond_true]
    unfold grC
    have := hl n
    rw [List.length_map, lenO_t (by omega), cond_true]
    exact h
 · cases h)
noncomputable def au0 (v : Int) (K : Nat → List SV → CTree) : CTree := bif decide (0 ≤ v ∧ v ≤ 255) then K (dcB v).length ((dcB v).map byteSV) else .fail
noncomputable def auN (m : Nat) (xs : List SV) (v : Int) (K : Nat → List SV → CTree) : CTree := bif dec (m = xs.length ∧ xs.length ≤ 1000 ∧ 0 ≤ v ∧ v ≤ 255) then K (xs.length + (dcB v).length) (xs ++ (dcB v).map byteSV) else .fail
theorem au1_t1 (v : Int) : opn (tbl [(62, au_s)]) Tryd.f46 [.nils, .int .u64 v, .int .i64 10] [] = au0 v fun n es => .ret (.qs 0 1 0 n) [(0, some (.seq 5 es))] := by kernel_rfl
theorem au1_t2 (m : Nat) (xs : List SV) (v : Int) : opn (tbl [(62, au_s)]) Tryd.f46 [.qs 0 1 0 m, .int .u64 v, .int .i64 10] [(0, .seq 5 xs)] = auN m xs v fun n es => .ret (.qs 1 1 0 n) [(0, none), (1, some (.seq 5 es))] := by kernel_rfl
theorem au_k : Known Tryd.prog 46 au_s := (openKnown (tbl_cons au_k0 ok0) Tryd.func46 rfl).weak (by
 intro args H v ups h
 unfold au_s at h
 split at h
 · rename_i n
   rw [crun_ite] at h
   refine (congrArg crun (au1_t1 n)).trans ?_
   unfold au0
   rw [crun_cond]
   exact h
 · rename_i m n xs
   rw [crun_ite] at h
   refine (congrArg crun (au1_t2 m xs n)).trans ?_
   unfold auN
   rw [crun_cond]
   exact h
 · cases h)
noncomputable def dotC (m : Nat) (xs : List SV) (K : Nat → List SV → CTree) : CTree := bif decide (m = xs.length) then grC xs [.int .u8 46] K else .fail
theorem dotC_ok {xs : List SV} (hx : xs.length ≤ 1000) {K : Nat → List SV → CTree} : dotC xs.length xs K = K (xs ++ [SV.int .u8 46]).length (xs ++ [SV.int .u8 46]) := by
 unfold dotC grC; rw [decide_eq_true rfl, cond_true, List.length_singleton, lenO_t (by omega), cond_true, List.length_append, List.length_singleton]
theorem auN_ok {xs : List SV} {v : Int} (hx : xs.length ≤ 1000) (h0 : 0 ≤ v) (h1 : v ≤ 255) {K : Nat → List SV → CTree} : auN xs.length xs v K = K (xs ++ (dcB v).map byteSV).length (xs ++ (dcB v).map byteSV) := by
 unfold auN; rw [dec_iff.2 ⟨rfl, hx, h0, h1⟩, cond_true, List.length_append, List.length_map]
def strC (n : Nat) (B : List SV) (K : List UInt8 → CTree) : CTree := bif decide (0 = 0) && decide (n = B.length) then K (B.map Am.byteOf) else bif decide (0 + n ≤ B.length) then K (((B.drop 0).take n).map Am.byteOf) else .fail
def octI (ip : Int) (k : Nat) : Int := wu64 (andI .u32 (ip.fdiv (2 ^ k)) 255)
theorem ipt_t (ip : Int) : opn (tbl [(46, au_s)]) Tryd.f28 [.int .u32 ip] [] = au0 (octI ip 24) fun n es => dotC n es fun n es => auN n es (octI ip 16) fun n es => dotC n es fun n es => auN n es (octI ip 8) fun n es => dotC n es fun n es => auN n es (octI ip 0) fun n es => strC n es fun t => .ret (.str t) [] := by kernel_rfl
def ipB (ip : Int) : List UInt8 := dcB (octI ip 24) ++ 46 :: (dcB (octI ip 16) ++ 46 :: (dcB (octI ip 8) ++ 46 :: dcB (octI ip 0)))
theorem byteOf_SV (b : UInt8) : Am.byteOf (byteSV b) = b := by
 show UInt8.ofNat ((b.toNat : Int).toNat) = b
 simp
theorem map_SV (l : List UInt8) : (l.map byteSV).map Am.byteOf = l := by
 rw [List.map_map]
 have : (Am.byteOf ∘ byteSV) = id := by funext b; exact byteOf_SV b
 rw [this, List.map_id]
theorem byteOf_46 : Am.byteOf (.int .u8 46) = 46 := rfl
noncomputable def ipt_s : CSumm := fun args H => match args, H with
 | [.int .u32 ip], [] => .ite (dec (∀ k, 0 ≤ octI ip k ∧ octI ip k ≤ 255)) (.ret (.str (ipB ip)) []) .fail
 | _, _ => .fail
theorem ipt_k : Known Tryd.prog 28 ipt_s := (openKnown (tbl_cons au_k ok0) Tryd.func28 rfl).weak (by
 intro args H v ups h
 unfold ipt_s at h
 split at h
 · rename_i ip
   rw [crun_ite] at h
   cases hc : dec (∀ k, 0 ≤ octI ip k ∧ octI ip k ≤ 255) with
   | false => rw [hc] at h; cases h
   | true =>
    rw [hc, cond_true] at h
    have ho := dec_iff.1 hc
    refine (congrArg crun (ipt_t ip)).trans ?_
    rw [← h]
    unfold ipB
    obtain ⟨a0, a1⟩ := ho 24; obtain ⟨b0, b1⟩ := ho 16; obtain ⟨c0, c1⟩ := ho 8; obtain ⟨d0, d1⟩ := ho 0
    have la := dcB_len (octI ip 24); have lb := dcB_len (octI ip 16); have lc := dcB_len (octI ip 8); have ld := dcB_len (octI ip 0)
    generalize octI ip 24 = a at *
    generalize octI ip 16 = b at *
    generalize octI ip 8 = c at *
    generalize octI ip 0 = d at *
    unfold au0
    rw [decide_eq_true ⟨a0, a1⟩, cond_true]
    dsimp only
    rw [show (dcB a).length = ((dcB a).map byteSV).length from (List.length_map _).symm]
    have x1 : ((dcB a).map byteSV).length ≤ 3 := by rw [List.length_map]; exact la
    have x2 : ((dcB b).map byteSV).length ≤ 3 := by rw [List.length_map]; exact lb
    have x3 : ((dcB c).map byteSV).length ≤ 3 := by rw [List.length_map]; exact lc
    have x4 : ((dcB d).map byteSV).length ≤ 3 := by rw [List.length_map]; exact ld
    rw [dotC_ok (by omega), auN_ok (by simp only [List.length_append, List.length_singleton]; omega) b0 b1, dotC_ok (by simp only [List.length_append, List.length_singleton]; omega), auN_ok (by simp only [List.length_append, List.length_singleton]; omega) c0 c1,
     dotC_ok (by simp only [List.length_append, List.length_singleton]; omega), auN_ok (by simp only [List.length_append, List.length_singleton]; omega) d0 d1]
    unfold strC
    rw [decide_eq_true rfl, decide_eq_true rfl, Bool.and_self, cond_true]
    simp only [List.map_append, map_SV, List.map_cons, List.map_nil, byteOf_46, List.append_assoc, List.cons_append, List.nil_append]
 · cases h)
end Go.Proofs.YtpelignoebgkbaaDoor
