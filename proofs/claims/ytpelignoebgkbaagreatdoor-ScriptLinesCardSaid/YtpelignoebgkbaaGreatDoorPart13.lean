/- The reference's Text is the program's. -/
import Derived.Test.YtpelignoebgkbaaGreatDoorPart12
import Derived.Test.YtpelignoebgkbaaGreatDoorPart8
set_option linter.unusedVariables false
set_option linter.unusedSimpArgs false
namespace Go.Proofs.YtpelignoebgkbaaGreatDoor
open Go.Am
set_option maxRecDepth 100000
theorem rdgF_nn {n : Int} (h : 0 ≤ n) : rdgF n = Lib.itoa n := by
 unfold rdgF Lib.itoa
 rw [decide_eq_false (by omega), cond_false, if_neg (by omega)]
theorem rdW_rw (q : Nat) {w : List UInt8} (x y : Cmd) (h : (rdW q w x).1 = 0) (hy : fOf y (fld q) = fOf (rdW q w x).2 (fld q)) : rwF y q = wordTx y q := by
 have h1 := numV_rng (most := 1000000000) (by omega) w
 have h2 := numV_rng (most := 65535) (by omega) w
 have h3 := numV_rng (most := 9223372036854775807) (by omega) w
 match q with
 | 0 =>
  have e : y.a = (numV 1000000000 w).2 := congrArg Prod.fst hy
  exact rdgF_nn (by omega)
 | 1 =>
  have e : y.b = (numV 1000000000 w).2 := congrArg Prod.fst hy
  exact rdgF_nn (by omega)
 | 2 =>
  show (bif y.b == -1 then _ else rdgF y.b) = (bif y.b == -1 then _ else Lib.itoa y.b)
  by_cases hb : y.b = -1
  · rw [show (y.b == -1) = true by simpa using hb]; rfl
  · rw [show (y.b == -1) = false by simpa using hb, cond_false, cond_false]
    have e : y.b = (rdW 2 w x).2.b := congrArg Prod.fst hy
    unfold rdW at e
    simp only [] at e
    split at e
    · exact absurd e hb
    · have e2 : y.b = (numV 1000000000 w).2 := e
      exact rdgF_nn (by omega)
 | 3 =>
  have e : y.b = (numV 65535 w).2 := congrArg Prod.fst hy
  exact rdgF_nn (by omega)
 | 4 => rfl
 | 5 => rfl
 | 6 => rfl
 | q + 7 =>
  have e : y.d = (numV 9223372036854775807 w).2 := congrArg Prod.fst hy
  show rdgF (w64 y.d) = Lib.decDigits y.d.toNat
  rw [show w64 y.d = y.d from w64_id (by omega) (by omega)]
  unfold rdgF
  rw [decide_eq_false (by omega), cond_false]
theorem brF_rw (n : Int) : ∀ (qs : List Nat) (x : Cmd) (ws : List (List UInt8 × Int)), apart qs → (brF n qs x ws).1 = 0 → ∀ q ∈ qs, rwF (brF n qs x ws).2.2 q = wordTx (brF n qs x ws).2.2 q
 | [], _, _, _, _, q, hq => by cases hq
 | q :: qs, x, [], _, h, _, _ => by cases h
 | q :: qs, x, w :: ws, ha, h, r, hr => by
  have he : (rdW q w.1 x).1 = 0 := by
   unfold brF at h
   split at h
   · assumption
   · rename_i he; exact absurd h he
  have e : brF n (q :: qs) x (w :: ws) = brF n qs (rdW q w.1 x).2 ws := by rw [brF, if_pos he]
  rw [e] at h ⊢
  rcases List.mem_cons.1 hr with rfl | hr
  · exact rdW_rw r x _ he (brF_fld n qs (rdW r w.1 x).2 ws h (fld r) (fun z hz => Ne.symm (ha.1 z hz)))
  · exact brF_rw n qs _ ws ha.2 h r hr
theorem line_rw {s : List UInt8} (h : (lineF s).2.1 = true) : ∃ f, formOf (lineF s).1.k = some f ∧ ∀ q ∈ f.2.2, rwF (lineF s).1 q = wordTx (lineF s).1 q := by
 have key : (readF s).1 = 0 ∧ lineF s = ((readF s).2.2, true, 0, 0) := by
  unfold lineF at h ⊢
  split at h
  · cases h
  · rename_i h1
    rw [if_neg h1]
    split at h
    · cases h
    · rename_i h2
      rw [if_neg h2]
      split at h
      · rename_i h3; rw [if_pos h3]; exact ⟨h3, rfl⟩
      · cases h
 obtain ⟨hr, hl⟩ := key
 rw [hl]
 simp only []
 have hw : (words s).2 = none := by
  unfold readF at hr
  split at hr
  · cases hr
  · assumption
  · assumption
 obtain ⟨w, ws, hws⟩ : ∃ w ws, (words s).1 = w :: ws := by
  cases hq : (words s).1 with
  | nil => exact absurd hq (words_some hw)
  | cons w ws => exact ⟨w, ws, rfl⟩
 have hrd : readF s = frmF s.length w ws formsL := by unfold readF; rw [hw, hws]
 obtain ⟨w0, p0⟩ := w
 rcases frmF_form w0 formsL with ⟨f, hf, hname, hfe⟩ | hno
 · obtain ⟨f1, f2, f3, f4⟩ := formsL_ok f hf
   have e := hrd.trans (hfe s.length p0 ws)
   rw [e] at hr ⊢
   obtain ⟨k1, _⟩ := brF_k s.length f.2.2 (cmd0' f.2.1) ws hr
   exact ⟨f, by rw [k1]; exact f1, brF_rw _ _ _ _ f2 hr⟩
 · rw [hrd, hno] at hr
   cases hr
def rlineTx (x : Cmd) : List UInt8 := match formOf x.k with
 | none => []
 | some f => f.1 ++ Lib.joinTail spc (f.2.2.map (rwF x))
theorem rline_same {x : Cmd} (h : ∃ f, formOf x.k = some f ∧ ∀ q ∈ f.2.2, rwF x q = wordTx x q) : rlineTx x = lineTx x := by
 obtain ⟨f, h1, h2⟩ := h
 unfold rlineTx lineTx wordsTx
 rw [h1]
 simp only []
 rw [Lib.join_cons, List.map_congr_left h2]
theorem cmdEq_eq {x y : Cmd} (h : cmdEq x y = true) : x = y := by
 unfold cmdEq at h
 simp only [Bool.and_eq_true, beq_iff_eq] at h
 obtain ⟨h1, h2, h3, h4, h5, h6, h7, h8⟩ := h
 obtain ⟨a1, a2, a3, a4, a5, a6, a7, a8⟩ := x
 obtain ⟨b1, b2, b3, b4, b5, b6, b7, b8⟩ := y
 simp only at h1 h2 h3 h4 h5 h6 h7 h8
 subst h1; subst h2; subst h3; subst h4; subst h5; subst h6; subst h7; subst h8
 rfl
theorem line_err {s : List UInt8} (h : (lineF s).2.1 = true) : (lineF s).2.2.1 = 0 := by
 unfold lineF at h ⊢
 split at h
 · cases h
 · rename_i h1
   rw [if_neg h1]
   split at h
   · cases h
   · rename_i h2
     rw [if_neg h2]
     split at h
     · rename_i h3; rw [if_pos h3]
     · cases h
def rokTx (x : Cmd) : Bool := bif !(lineF (rlineTx x)).2.1 then true else !(cmdEq (lineF (rlineTx x)).1 x)
def rtxR (x : Cmd) : CTree := bif rokTx x then txB else .ret (.tup [.str (rlineTx x), .int .i64 0]) []
theorem rtx_same (x : Cmd) : rtxR x = txR x := by
 unfold rtxR txR
 have fwd : rokTx x = false → rlineTx x = lineTx x := fun h => by
  unfold rokTx at h
  cases hi : (lineF (rlineTx x)).2.1 with
  | false => rw [hi] at h; cases h
  | true =>
   rw [hi, Bool.not_true, cond_false, Bool.not_eq_false'] at h
   have := line_rw hi
   rw [cmdEq_eq h] at this
   exact rline_same this
 have bwd : okTx x = false → rlineTx x = lineTx x := fun h => by
  unfold okTx at h
  cases hi : (lineF (lineTx x)).2.1 with
  | false => rw [hi] at h; cases he : (lineF (lineTx x)).2.2.1 != 0 <;> rw [he] at h <;> cases h
  | true =>
   rw [line_err hi, hi] at h
   have h2 : cmdEq (lineF (lineTx x)).1 x = true := by simpa using h
   have := line_rw hi
   rw [cmdEq_eq h2] at this
   exact rline_same this
 have eq : rlineTx x = lineTx x → rokTx x = okTx x := fun h => by
  unfold rokTx okTx
  rw [h]
  cases hi : (lineF (lineTx x)).2.1 with
  | false => cases (lineF (lineTx x)).2.2.1 != 0 <;> rfl
  | true => rw [line_err hi]; rfl
 cases h1 : rokTx x with
 | false =>
  have e := fwd h1
  have := eq e
  rw [h1] at this
  rw [← this, e]
 | true =>
  cases h2 : okTx x with
  | true => rfl
  | false =>
   have := eq (bwd h2)
   rw [h1, h2] at this
   cases this
theorem rdgF_len {n : Int} (h : in64 n) : (rdgF n).length ≤ 100 := by
 obtain ⟨h0, h1⟩ := h
 unfold rdgF
 by_cases hn : n < 0
 · rw [decide_eq_true hn]; simp
 · rw [decide_eq_false hn, cond_false, Lib.decDigits_length]
   have := Lib.nDigits_le20 n.toNat (by omega)
   omega
theorem rwF_len {x : Cmd} (hx : CmdOk x) (h : WOk x) (q : Nat) : (rwF x q).length ≤ 100 := by
 obtain ⟨ha, hb, -⟩ := h
 have h4 := wordTx_len hx 4
 have h5 := wordTx_len hx 5
 have h6 := wordTx_len hx 6
 match q with
 | 0 => exact rdgF_len ha
 | 1 => exact rdgF_len hb
 | 2 =>
  show (bif x.b == -1 then _ else rdgF x.b).length ≤ 100
  cases (x.b == -1)
  · exact rdgF_len hb
  · simp
 | 3 => exact rdgF_len hb
 | 4 => exact h4
 | 5 => exact h5
 | 6 => exact h6
 | q + 7 => exact rdgF_len (w64_in _)
theorem rwrT_eq {x : Cmd} (hx : CmdOk x) (h : WOk x) : ∀ (qs : List Nat) (s : List UInt8), s.length + 101 * qs.length ≤ 1000000 → rwrT x s qs = endR x (s ++ Lib.joinTail spc (qs.map (rwF x)))
 | [], s, _ => by
  rw [rwrT, show Lib.joinTail spc (([] : List Nat).map (rwF x)) = [] from rfl, List.append_nil]
 | q :: qs, s, hs => by
  have hq := rwF_len hx h q
  simp only [List.length_cons] at hs
  rw [rwrT, adC_ok (by simp only [List.length_cons, List.length_nil]; omega), asCmd_cs, dec_iff.2 ⟨rfl, h⟩, cond_true, adC_ok (by simp only [List.length_append, List.length_cons, List.length_nil]; omega), rwrT_eq hx h qs _ (by simp only [List.length_append, List.length_cons, List.length_nil]; omega)]
  congr 1
  show _ = s ++ (32 :: rwF x q ++ Lib.joinTail spc (qs.map (rwF x)))
  simp
theorem endR_eq {x : Cmd} (s : List UInt8) (hs : s.length ≤ 1000000) (he : s = rlineTx x) : endR x s = rtxR x := by
 subst he
 unfold endR
 rw [decide_eq_true hs, cond_true]
 rfl
theorem rkT_eq {x : Cmd} (hx : CmdOk x) (h : WOk x) : rkT x.k x.a x.b x.c x.up x.m x.i x.d = rtxR x := by
 have form : ∀ (nm : List UInt8) (qs : List Nat), nm.length ≤ 100 → qs.length ≤ 4 → formOf x.k = some (nm, x.k, qs) → rwrT x nm qs = rtxR x := by
  intro nm qs h1 h2 hf
  rw [rwrT_eq hx h qs nm (by omega)]
  refine endR_eq _ ?_ (by unfold rlineTx; rw [hf])
  have := joinTail_le (qs.map (rwF x)) (fun w hw => by obtain ⟨q, _, rfl⟩ := List.mem_map.1 hw; exact rwF_len hx h q)
  rw [List.length_map] at this
  rw [List.length_append]
  omega
 obtain ⟨k, a, b, c, up, m, i, d⟩ := x
 have none' : formOf k = none → endR ⟨k, a, b, c, up, m, i, d⟩ [] = rtxR ⟨k, a, b, c, up, m, i, d⟩ := fun hf => endR_eq _ (by simp) (by unfold rlineTx; simp only [hf])
 match k with
 | .negSucc n => exact (rxN n a b c up m i d).trans (none' rfl)
 | .ofNat 0 => exact (rx0 a b c up m i d).trans (none' rfl)
 | .ofNat 1 => exact (rx1 a b c up m i d).trans (form _ _ (by simp) (by simp) rfl)
 | .ofNat 2 => exact (rx2 a b c up m i d).trans (form _ _ (by simp) (by simp) rfl)
 | .ofNat 3 => exact (rx3 a b c up m i d).trans (form _ _ (by simp) (by simp) rfl)
 | .ofNat 4 => exact (rx4 a b c up m i d).trans (form _ _ (by simp) (by simp) rfl)
 | .ofNat 5 => exact (rx5 a b c up m i d).trans (form _ _ (by simp) (by simp) rfl)
 | .ofNat 6 => exact (rx6 a b c up m i d).trans (form _ _ (by simp) (by simp) rfl)
 | .ofNat 7 => exact (rx7 a b c up m i d).trans (form _ _ (by simp) (by simp) rfl)
 | .ofNat 8 => exact (rx8 a b c up m i d).trans (form _ _ (by simp) (by simp) rfl)
 | .ofNat 9 => exact (rx9 a b c up m i d).trans (form _ _ (by simp) (by simp) rfl)
 | .ofNat 10 => exact (rx10 a b c up m i d).trans (form _ _ (by simp) (by simp) rfl)
 | .ofNat 11 => exact (rx11 a b c up m i d).trans (form _ _ (by simp) (by simp) rfl)
 | .ofNat 12 => exact (rx12 a b c up m i d).trans (form _ _ (by simp) (by simp) rfl)
 | .ofNat (n + 13) => exact (rxG n a b c up m i d).trans (none' (formOf_out (.inr (by show (12 : Int) < ((n + 13 : Nat) : Int); omega))))
theorem rkTx_eq (x : Cmd) : rkTx x = rkT x.k x.a x.b x.c x.up x.m x.i x.d := rfl
noncomputable def rtext_s : CSumm := fun args H => match args, H with
 | [.agg cs], [] => .ite (dec (cs = (asCmd cs).cs ∧ CmdOk (asCmd cs) ∧ WOk (asCmd cs))) (txS (asCmd cs)) .fail
 | _, _ => .fail
theorem rtext_k0 : Known Tryz.prog 11 (opn κx Tryz.f11) := openKnown κxOk Tryz.func11 rfl
theorem rtext_k : Known Tryz.prog 11 rtext_s := rtext_k0.weak (by
 intro args H v ups h
 unfold rtext_s at h
 split at h
 · rename_i cs
   rw [crun_ite, cond_eq_ite] at h
   split at h
   · rename_i hc
     obtain ⟨hcs, hok, hw⟩ := dec_iff.1 hc
     have hk := (rkTx_eq _).trans ((rkT_eq hok hw).trans (rtx_same _))
     generalize asCmd cs = x at hcs hok hk h
     subst hcs
     show crun (rkTx x) = _
     rw [hk, ← txS_eq]
     exact h
   · cases h
 · cases h)
end Go.Proofs.YtpelignoebgkbaaGreatDoor
/- Scripts: the law of lines: its tree; it answers true. -/
namespace Go.Proofs.YtpelignoebgkbaaGreatDoor
open Go.Am
set_option maxRecDepth 100000
noncomputable abbrev TL : List (Nat × CSumm) := [(4, constS (.bool true)), (5, light_s), (6, line_s), (7, line_s), (8, parse_s), (9, parse_s), (10, text_s), (11, rtext_s), (12, same_s)]
theorem okL : KOk Tryz.prog (tbl TL) := tbl_cons lives_k (tbl_cons light_k (tbl_cons line_k (tbl_cons rline_k (tbl_cons parse_k (tbl_cons rparse_k (tbl_cons text_k (tbl_cons rtext_k (tbl_cons same_k ok0))))))))
def rB (b : Bool) : CTree := .ret (.bool b) []
def fEq (p q : Int × Int) : Bool := p.1 == q.1 && p.2 == q.2
def andR (b : Bool) (K : CTree) : CTree := bif b then K else rB false
noncomputable def finT (l : Cmd × Bool × Int × Int) (p : List Cmd × Int × Int) (t : List UInt8) (j : Int) (u : List UInt8) (k : Int) : CTree :=
 andR (cmdEq l.1 l.1) (andR (l.2.1 == l.2.1) (andR (fEq l.2.2 l.2.2) (bif dec (smSz (p.1.map csv)) then andR (sameB (p.1.map csv) (p.1.map csv)) (andR (fEq p.2 p.2) (andR (t == u) (rB (j == k)))) else .fail)))
noncomputable def linT (x : Cmd) (s : List UInt8) (l : Cmd × Bool × Int × Int) (p : List Cmd × Int × Int) : CTree :=
 bif !decide ((s.length : Int) ≤ 3000) then rB true else
 bif decide (s.length ≤ 1000000) then bif decide (s.length ≤ 1000000) then bif decide (s.length ≤ 1000000) then bif decide (s.length ≤ 1000000) then
  bif dec (x.cs = (asCmd x.cs).cs ∧ CmdOk (asCmd x.cs)) then
   bif okTx x then
    bif dec (x.cs = (asCmd x.cs).cs ∧ CmdOk (asCmd x.cs) ∧ WOk (asCmd x.cs)) then bif okTx x then finT l p [] 3 [] 3 else finT l p [] 3 (lineTx x) 0 else .fail
   else
    bif dec (x.cs = (asCmd x.cs).cs ∧ CmdOk (asCmd x.cs) ∧ WOk (asCmd x.cs)) then bif okTx x then finT l p (lineTx x) 0 [] 3 else finT l p (lineTx x) 0 (lineTx x) 0 else .fail
  else .fail
 else .fail else .fail else .fail else .fail
theorem lines_t (x : Cmd) (s : List UInt8) : opn (tbl TL) Tryz.f3 [.str s, .agg x.cs] [] = linT x s (lineF s) (parseF s) := by kernel_rfl
theorem pL_le : ∀ (l : List (List UInt8)) (i : Int), (pL l i).1.length ≤ l.length
 | [], _ => Nat.le_refl _
 | x :: l, i => by
  have := pL_le l (i + 1)
  unfold pL
  split
  · simp only [List.length_cons]
    split
    · simp only [List.length_cons]; omega
    · omega
  · simp
theorem parseF_le (s : List UInt8) : (parseF s).1.length ≤ s.length + 1 := by
 have h1 := pL_le (spl 10 s) 0
 have h2 : (spl 10 s).length ≤ s.length + 1 := splR_len 10 s []
 unfold parseF
 split
 · simp
 · split
   · show (pL (spl 10 s) 0).1.length ≤ _; omega
   · simp
theorem cmdEq_self (x : Cmd) : cmdEq x x = true := by simp [cmdEq]
theorem fEq_self (p : Int × Int) : fEq p p = true := by simp [fEq]
theorem fin_true {l : Cmd × Bool × Int × Int} {p : List Cmd × Int × Int} {t : List UInt8} {j : Int} (h : p.1.length ≤ 1000000) : crun (finT l p t j t j) = some (.bool true, []) := by
 unfold finT
 rw [cmdEq_self, fEq_self, fEq_self, sameB_self, dec_iff.2 (show smSz (p.1.map csv) by unfold smSz; rw [List.length_map]; omega), cond_true]
 simp only [beq_self_eq_true, andR, cond_true]
 rfl
theorem lin_true {x : Cmd} {s : List UInt8} (hx : CmdOk x) (hw : WOk x) : crun (linT x s (lineF s) (parseF s)) = some (.bool true, []) := by
 unfold linT
 by_cases hs : (s.length : Int) ≤ 3000
 · have hp := parseF_le s
   rw [decide_eq_true hs, Bool.not_true, cond_false, decide_eq_true (show s.length ≤ 1000000 by omega), cond_true, cond_true, cond_true, cond_true, asCmd_cs, dec_iff.2 ⟨rfl, hx⟩, dec_iff.2 ⟨rfl, hx, hw⟩, cond_true, cond_true, cond_true]
   cases okTx x with
   | true => exact fin_true (by omega)
   | false => exact fin_true (by omega)
 · rw [decide_eq_false hs, Bool.not_false, cond_true]
   rfl
noncomputable def lines_b : CSumm := opn (tbl TL) Tryz.f3
theorem lines_k : Known Tryz.prog 3 lines_b := openKnown okL Tryz.func3 rfl
end Go.Proofs.YtpelignoebgkbaaGreatDoor
