/- Attributes' values with lists, as the program writes them. -/
import Derived.Test.YtdgnhaacdpmclaaGreatPart16
set_option linter.unusedVariables false
set_option linter.unusedSimpArgs false
namespace Go.Proofs.YtdgnhaacdpmclaaGreat
open Go.Am
set_option maxRecDepth 100000
noncomputable def okW (l : List SV) : Bool := Classical.propDecidable (∀ k : Nat, 0 ≤ asI (l.getD k .junk) ∧ asI (l.getD k .junk) < 4294967296) |>.decide
noncomputable def lpT (m : Nat) (es xs : List SV) (more ok : Bool) : CTree :=
 .ite (decide (m = es.length) && ok) (.ite more (.ret (.tup [.int .i64 2]) [(1, some (.cells 133 [.qs 4 1 0 (es.length + xs.length), .int .i64 65535, .mp 3])), (2, none), (4, some (.seq 5 (es ++ xs)))]) (.ret (.tup [.int .i64 2]) [])) .fail
noncomputable def wLs (T : Nat) : CSumm
 | [.psl T' l, .int .i64 n, .int .i64 i, .ptr 0 0], [(0, .cells 136 [.ptr 1 0]), (1, .cells 133 [.qs 2 1 0 m, .int .i64 65535, .mp 3]), (2, .seq 5 es), (3, .mpc [] [])] =>
  bif Nat.beq T T' then lpT m es (wds (lft n i) l i) (decide (i < n)) (decide (n = l.length) && invW l i (m + 4 * lft n i) && okW l) else .fail
 | _, _ => .fail
def wM : List SV → HpL → Nat
 | [_, .int _ n, .int _ i, _], _ => lft n i
 | _, _ => 0
noncomputable def body37 : Code := Tryz.f42.body.getD .skip
noncomputable def c37 : Code := (loopAt 5 body37).getD .skip
noncomputable def e37 : LEnt := { ins := [32, 33, 34, 3], outs := [], keep := [0], size := 50, code := c37, s := wLs 26 }
noncomputable def body41 : Code := Tryz.f46.body.getD .skip
noncomputable def c41 : Code := (loopAt 2 body41).getD .skip
noncomputable def e41 : LEnt := { ins := [12, 13, 14, 3], outs := [], keep := [0], size := 31, code := c41, s := wLs 27 }
noncomputable abbrev κwo := openT Tryz.prog κwW 300 5
noncomputable abbrev ιwW : Nat → Bool := fun g => inl κwW g && hasBody Tryz.prog g
def lpE (n : Nat) (xs : List SV) : CTree := .ret (.tup [.int .i64 2]) [(1, some (.cells 133 [.qs 4 1 0 n, .int .i64 65535, .mp 3])), (2, none), (4, some (.seq 5 xs))]
noncomputable def nextV (N : Nat) (l : List SV) (n i : Int) (m : Nat) (ys : List SV) : CTree :=
 bif Nat.blt (lft n i) N then bif decide (m = ys.length) && (decide (n = l.length) && invW l i (m + 4 * lft n i) && okW l) then bif decide (i < n) then lpE (ys.length + (wds (lft n i) l i).length) (ys ++ wds (lft n i) l i) else lpE m ys else .fail else .fail
theorem round37 (N : Nat) (l : List SV) (n i : Int) (m : Nat) (es : List SV) : loopOnce Tryz.prog κwo ιwW (ltab []) true 300 e37 { e37 with s := boundT wM (wLs 26) N } c37 [.psl 26 l, .int .i64 n, .int .i64 i, .ptr 0 0] [(0, .cells 136 [.ptr 1 0]), (1, .cells 133 [.qs 2 1 0 m, .int .i64 65535, .mp 3]), (2, .seq 5 es), (3, .mpc [] [])] =
 bif decide (i < n) then bif inB i l.length then Wc 4 (w6 (asI (l.getD i.toNat .junk))) m es (nextV N l n (IntKind.i64.wrap (i + 1)) (es.length + 4) (es ++ wdB l i)) else .fail else .ret (.tup [.int .i64 2]) [] := by kernel_rfl
theorem round41 (N : Nat) (l : List SV) (n i : Int) (m : Nat) (es : List SV) : loopOnce Tryz.prog κwo ιwW (ltab []) true 300 e41 { e41 with s := boundT wM (wLs 27) N } c41 [.psl 27 l, .int .i64 n, .int .i64 i, .ptr 0 0] [(0, .cells 136 [.ptr 1 0]), (1, .cells 133 [.qs 2 1 0 m, .int .i64 65535, .mp 3]), (2, .seq 5 es), (3, .mpc [] [])] =
 bif decide (i < n) then bif inB i l.length then Wc 4 (w6 (asI (l.getD i.toNat .junk))) m es (nextV N l n (IntKind.i64.wrap (i + 1)) (es.length + 4) (es ++ wdB l i)) else .fail else .ret (.tup [.int .i64 2]) [] := by kernel_rfl
theorem okW_iff {l : List SV} : okW l = true ↔ ∀ k : Nat, 0 ≤ asI (l.getD k .junk) ∧ asI (l.getD k .junk) < 4294967296 := by
 unfold okW; exact @decide_eq_true_iff _ (Classical.propDecidable _)
theorem nextV_ok {N : Nat} {l : List SV} {n i : Int} {ys : List SV} (h1 : lft n i < N) (h2 : (decide (n = l.length) && invW l i (ys.length + 4 * lft n i) && okW l) = true) :
  nextV N l n i ys.length ys = lpE (ys.length + (wds (lft n i) l i).length) (ys ++ wds (lft n i) l i) := by
 have hb : Nat.blt (lft n i) N = true := by rw [Nat.blt_eq]; exact h1
 unfold nextV
 rw [hb, h2, decide_eq_true rfl]
 by_cases hlt : i < n
 · rw [decide_eq_true hlt]; rfl
 · rw [decide_eq_false hlt, lft_zero hlt]
   simp [wds]
theorem w_ok (T : Nat) {c : Code} {e : LEnt} (hr : ∀ (N : Nat) (l : List SV) (n i : Int) (m : Nat) (es : List SV), loopOnce Tryz.prog κwo ιwW (ltab []) true 300 e { e with s := boundT wM (wLs T) N } c [.psl T l, .int .i64 n, .int .i64 i, .ptr 0 0] [(0, .cells 136 [.ptr 1 0]), (1, .cells 133 [.qs 2 1 0 m, .int .i64 65535, .mp 3]), (2, .seq 5 es), (3, .mpc [] [])] =
 bif decide (i < n) then bif inB i l.length then Wc 4 (w6 (asI (l.getD i.toNat .junk))) m es (nextV N l n (IntKind.i64.wrap (i + 1)) (es.length + 4) (es ++ wdB l i)) else .fail else .ret (.tup [.int .i64 2]) []) :
  ∀ (N : Nat) args H r, Nat.blt (wM args H) (N + 1) = true → crun (wLs T args H) = some r → crun (loopOnce Tryz.prog κwo ιwW (ltab []) true 300 e { e with s := boundT wM (wLs T) N } c args H) = some r := by
 intro N args H r hb hr'
 unfold wLs at hr'
 split at hr'
 · rename_i T' l n i m es
   rw [crun_cond] at hr'
   cases hT : Nat.beq T T' with
   | false => rw [hT] at hr'; cases hr'
   | true =>
   have hT := Nat.eq_of_beq_eq_true hT
   subst hT
   rw [nb_t rfl, cond_true, lpT, crun_ite, crun_ite] at hr'
   cases hc : (decide (m = es.length) && (decide (n = l.length) && invW l i (m + 4 * lft n i) && okW l)) with
   | false => rw [hc] at hr'; cases hr'
   | true =>
    rw [hc, cond_true] at hr'
    have hc' := hc
    rw [Bool.and_eq_true, decide_eq_true_eq, Bool.and_eq_true, Bool.and_eq_true, decide_eq_true_eq] at hc'
    obtain ⟨rfl, ⟨rfl, hi⟩, ho⟩ := hc'
    obtain ⟨h0, h1, h2, h3⟩ := invW_iff.1 hi
    have hb' : lft l.length i < N + 1 := by
     have : Nat.blt (lft l.length i) (N + 1) = true := hb
     rwa [Nat.blt_eq] at this
    rw [hr, ← hr']
    by_cases hlt : i < l.length
    · have hs := lft_succ hlt
      have hw : IntKind.i64.wrap (i + 1) = i + 1 := w64_id (by omega) (by omega)
      have hin : inB i l.length = true := by unfold inB; simp; omega
      obtain ⟨g0, g1⟩ := okW_iff.1 ho i.toNat
      have hi2 : (decide ((l.length : Int) = l.length) && invW l (i + 1) ((es ++ wdB l i).length + 4 * lft l.length (i + 1)) && okW l) = true := by
       rw [Bool.and_eq_true, Bool.and_eq_true]
       exact ⟨⟨decide_eq_true rfl, invW_iff.2 ⟨by omega, by omega, h2, by rw [List.length_append, wdB_len]; omega⟩⟩, ho⟩
      rw [decide_eq_true hlt, hin, hw, cond_true, cond_true, cond_true, Wc_ok rfl (by rw [w6_id g0 (by omega)]; exact g0) (by rw [w6_id g0 (by omega)]; exact g1) (by omega), show es.length + 4 = (es ++ wdB l i).length by rw [List.length_append, wdB_len], nextV_ok (by omega) hi2, hs]
      simp [wds, lpE, Nat.add_assoc]
    · rw [decide_eq_false hlt]; rfl
 · cases hr'
theorem w37_valid : ValidL Tryz.prog e37 := loop_valid (κ := κwo) (ι := ιwW) (T := ltab []) (sp := true) (fuel := 300) (c := c37) (μ := wM) (openT_ok noNumTry mixTry wOk 300 5) mixTry ltab_nil (show fillC (ltab []) c37 = c37 by kernel_rfl) (w_ok 26 round37)
theorem w41_valid : ValidL Tryz.prog e41 := loop_valid (κ := κwo) (ι := ιwW) (T := ltab []) (sp := true) (fuel := 300) (c := c41) (μ := wM) (openT_ok noNumTry mixTry wOk 300 5) mixTry ltab_nil (show fillC (ltab []) c41 = c41 by kernel_rfl) (w_ok 27 round41)
end Go.Proofs.YtdgnhaacdpmclaaGreat
/- Communities, as the program writes them. -/
namespace Go.Proofs.YtdgnhaacdpmclaaGreat
open Go.Am
set_option maxRecDepth 100000
def cmB (l : List SV) (i : Int) : List SV := [.int .u8 (asI (cellAt (l.getD i.toNat .junk) 0)), .int .u8 (asI (cellAt (l.getD i.toNat .junk) 1)), .int .u8 (asI (cellAt (l.getD i.toNat .junk) 2)), .int .u8 (asI (cellAt (l.getD i.toNat .junk) 3)), .int .u8 (asI (cellAt (l.getD i.toNat .junk) 4)), .int .u8 (asI (cellAt (l.getD i.toNat .junk) 5)), .int .u8 (asI (cellAt (l.getD i.toNat .junk) 6)), .int .u8 (asI (cellAt (l.getD i.toNat .junk) 7))]
def cmBs : Nat → List SV → Int → List SV
 | 0, _, _ => []
 | k + 1, l, i => cmB l i ++ cmBs k l (i + 1)
noncomputable def lpT2 (m : Nat) (es xs : List SV) (more ok : Bool) : CTree :=
 .ite (decide (m = es.length) && ok) (.ite more (.ret (.tup [.int .i64 2]) [(2, none), (1, some (.cells 133 [.qs 4 1 0 (es.length + xs.length), .int .i64 65535, .mp 3])), (4, some (.seq 5 (es ++ xs)))]) (.ret (.tup [.int .i64 2]) [])) .fail
def lpE2 (n : Nat) (xs : List SV) : CTree := .ret (.tup [.int .i64 2]) [(2, none), (1, some (.cells 133 [.qs 4 1 0 n, .int .i64 65535, .mp 3])), (4, some (.seq 5 xs))]
noncomputable def cLs : CSumm
 | [.psl 91 l, .int .i64 n, .int .i64 i, .ptr 0 0], [(0, .cells 136 [.ptr 1 0]), (1, .cells 133 [.qs 2 1 0 m, .int .i64 65535, .mp 3]), (2, .seq 5 es), (3, .mpc [] [])] =>
  lpT2 m es (cmBs (lft n i) l i) (decide (i < n)) (decide (n = l.length) && invW l i (m + 8 * lft n i))
 | _, _ => .fail
noncomputable def body44 : Code := Tryz.f49.body.getD .skip
noncomputable def c44 : Code := (loopAt 2 body44).getD .skip
noncomputable def e44 : LEnt := { ins := [12, 13, 14, 3], outs := [], keep := [0], size := 30, code := c44, s := cLs }
noncomputable def nextC (N : Nat) (l : List SV) (n i : Int) (m : Nat) (ys : List SV) : CTree :=
 bif Nat.blt (lft n i) N then bif decide (m = ys.length) && (decide (n = l.length) && invW l i (m + 8 * lft n i)) then bif decide (i < n) then lpE2 (ys.length + (cmBs (lft n i) l i).length) (ys ++ cmBs (lft n i) l i) else lpE2 m ys else .fail else .fail
theorem round44 (N : Nat) (l : List SV) (n i : Int) (m : Nat) (es : List SV) : loopOnce Tryz.prog κwo ιwW (ltab []) true 300 e44 { e44 with s := boundT wM cLs N } c44 [.psl 91 l, .int .i64 n, .int .i64 i, .ptr 0 0] [(0, .cells 136 [.ptr 1 0]), (1, .cells 133 [.qs 2 1 0 m, .int .i64 65535, .mp 3]), (2, .seq 5 es), (3, .mpc [] [])] =
 bif decide (i < n) then bif inB i l.length then bif decide (m = es.length ∧ ((es.length + (cmB l i).length : Nat) : Int) ≤ 65535 ∧ (65535 : Int) ≤ 65536) then nextC N l n (IntKind.i64.wrap (i + 1)) (es.length + (cmB l i).length) (es ++ cmB l i) else .fail else .fail else .ret (.tup [.int .i64 2]) [] := by kernel_rfl
theorem cmBs_len (l : List SV) : ∀ (k : Nat) (i : Int), (cmBs k l i).length = 8 * k
 | 0, _ => rfl
 | k + 1, i => by rw [cmBs, List.length_append, cmBs_len l k]; simp [cmB]; omega
theorem nextC_ok {N : Nat} {l : List SV} {n i : Int} {ys : List SV} (h1 : lft n i < N) (h2 : (decide (n = l.length) && invW l i (ys.length + 8 * lft n i)) = true) :
  nextC N l n i ys.length ys = lpE2 (ys.length + (cmBs (lft n i) l i).length) (ys ++ cmBs (lft n i) l i) := by
 have hb : Nat.blt (lft n i) N = true := by rw [Nat.blt_eq]; exact h1
 unfold nextC
 rw [hb, h2, decide_eq_true rfl]
 by_cases hlt : i < n
 · rw [decide_eq_true hlt]; rfl
 · rw [decide_eq_false hlt, lft_zero hlt]
   simp [cmBs]
theorem w44_valid : ValidL Tryz.prog e44 := loop_valid (κ := κwo) (ι := ιwW) (T := ltab []) (sp := true) (fuel := 300) (c := c44) (μ := wM) (openT_ok noNumTry mixTry wOk 300 5) mixTry ltab_nil (show fillC (ltab []) c44 = c44 by kernel_rfl) (by
 intro N args H r hb hr0
 have hr' : crun (cLs args H) = some r := hr0
 unfold cLs at hr'
 split at hr'
 · rename_i l n i m es
   rw [lpT2, crun_ite, crun_ite] at hr'
   cases hc : (decide (m = es.length) && (decide (n = l.length) && invW l i (m + 8 * lft n i))) with
   | false => rw [hc] at hr'; cases hr'
   | true =>
    rw [hc, cond_true] at hr'
    have hc' := hc
    rw [Bool.and_eq_true, decide_eq_true_eq, Bool.and_eq_true, decide_eq_true_eq] at hc'
    obtain ⟨rfl, rfl, hi⟩ := hc'
    obtain ⟨h0, h1, h2, h3⟩ := invW_iff.1 hi
    have hb' : lft l.length i < N + 1 := by
     have : Nat.blt (lft l.length i) (N + 1) = true := hb
     rwa [Nat.blt_eq] at this
    refine (congrArg crun (round44 N l l.length i es.length es)).trans ?_
    rw [← hr']
    by_cases hlt : i < l.length
    · have hs := lft_succ hlt
      have hw : IntKind.i64.wrap (i + 1) = i + 1 := w64_id (by omega) (by omega)
      have hin : inB i l.length = true := by unfold inB; simp; omega
      have hcl : (cmB l i).length = 8 := rfl
      have hi2 : (decide ((l.length : Int) = l.length) && invW l (i + 1) ((es ++ cmB l i).length + 8 * lft l.length (i + 1))) = true := by
       rw [Bool.and_eq_true]
       exact ⟨decide_eq_true rfl, invW_iff.2 ⟨by omega, by omega, h2, by rw [List.length_append, hcl]; omega⟩⟩
      rw [decide_eq_true hlt, hin, hw, cond_true, cond_true, cond_true, decide_eq_true ⟨rfl, by rw [hcl]; omega, by omega⟩, cond_true, ← List.length_append, nextC_ok (by omega) hi2, hs]
      simp [cmBs, lpE2, Nat.add_assoc]
    · rw [decide_eq_false hlt]; rfl
 · cases hr')
end Go.Proofs.YtdgnhaacdpmclaaGreat
/- Attributes' values, each by one leaf. -/
namespace Go.Proofs.YtdgnhaacdpmclaaGreat
open Go.Am
set_option maxRecDepth 100000
noncomputable abbrev T37 : LTab := ltab [("w", e37)]
noncomputable def m37 : Code := markC [(5, "w")] body37
theorem fill37 : Tryz.f42.body = some (fillC T37 m37) := by kernel_rfl
noncomputable abbrev p37_b : CSumm := bodyCL Tryz.prog κwo ιwW T37 true 300 Tryz.f42 m37
noncomputable abbrev T41 : LTab := ltab [("w", e41)]
noncomputable def m41 : Code := markC [(2, "w")] body41
theorem fill41 : Tryz.f46.body = some (fillC T41 m41) := by kernel_rfl
noncomputable abbrev p41_b : CSumm := bodyCL Tryz.prog κwo ιwW T41 true 300 Tryz.f46 m41
noncomputable abbrev T44 : LTab := ltab [("w", e44)]
noncomputable def m44 : Code := markC [(2, "w")] body44
theorem fill44 : Tryz.f49.body = some (fillC T44 m44) := by kernel_rfl
noncomputable abbrev p44_b : CSumm := bodyCL Tryz.prog κwo ιwW T44 true 300 Tryz.f49 m44
theorem p37_t (a : At) (R U : List SV) (kr ku : Nat) : p37_b vArgs (dH a R U kr ku 0 []) =
 bif decide ((a.path.length : Int) > 0) then Wc 1 (w6 a.path.length) (([] : List SV).length + 1) ([] ++ be 2 1) (bif decide ((([] : List SV) ++ be 2 1).length + 1 = (([] : List SV) ++ be 2 1 ++ be (w6 a.path.length) 1).length) && (decide ((a.path.length : Int) = a.path.length) && invW a.path 0 ((([] : List SV) ++ be 2 1).length + 1 + 4 * lft a.path.length 0) && okW a.path) then
  bif decide (0 < (a.path.length : Int)) then rowR (decide ((kr : Int) > 0)) ((([] : List SV) ++ be 2 1 ++ be (w6 a.path.length) 1).length + (wds (lft a.path.length 0) a.path 0).length) ((([] : List SV) ++ be 2 1 ++ be (w6 a.path.length) 1) ++ wds (lft a.path.length 0) a.path 0)
  else rowR (decide ((kr : Int) > 0)) 2 (([] : List SV) ++ be 2 1 ++ be (w6 a.path.length) 1) else .fail)
 else bif decide (0 = ([] : List SV).length) && (decide ((a.path.length : Int) = a.path.length) && invW a.path 0 (0 + 4 * lft a.path.length 0) && okW a.path) then
  bif decide (0 < (a.path.length : Int)) then .ret (.tup [.bool (decide ((kr : Int) > 0)), .int .i64 0]) [(4, none), (3, some (.cells 133 [.qs 6 1 0 (([] : List SV).length + (wds (lft a.path.length 0) a.path 0).length), .int .i64 65535, .mp 5])), (6, some (.seq 5 ([] ++ wds (lft a.path.length 0) a.path 0)))]
  else .ret (.tup [.bool (decide ((kr : Int) > 0)), .int .i64 0]) [] else .fail := by kernel_rfl
theorem p41_t (a : At) (R U : List SV) (kr ku : Nat) : p41_b vArgs (dH a R U kr ku 0 []) =
 bif decide (0 = ([] : List SV).length) && (decide ((a.cl.length : Int) = a.cl.length) && invW a.cl 0 (0 + 4 * lft a.cl.length 0) && okW a.cl) then
  bif decide (0 < (a.cl.length : Int)) then .ret (.tup [.bool (decide ((a.cl.length : Int) > 0)), .int .i64 0]) [(4, none), (3, some (.cells 133 [.qs 6 1 0 (([] : List SV).length + (wds (lft a.cl.length 0) a.cl 0).length), .int .i64 65535, .mp 5])), (6, some (.seq 5 ([] ++ wds (lft a.cl.length 0) a.cl 0)))]
  else .ret (.tup [.bool (decide ((a.cl.length : Int) > 0)), .int .i64 0]) [] else .fail := by kernel_rfl
theorem p44_t (a : At) (R U : List SV) (kr ku : Nat) : p44_b vArgs (dH a R U kr ku 0 []) =
 bif decide (0 = ([] : List SV).length) && (decide ((a.cm.length : Int) = a.cm.length) && invW a.cm 0 (0 + 8 * lft a.cm.length 0)) then
  bif decide (0 < (a.cm.length : Int)) then rowR (decide ((a.cm.length : Int) > 0)) (([] : List SV).length + (cmBs (lft a.cm.length 0) a.cm 0).length) ([] ++ cmBs (lft a.cm.length 0) a.cm 0)
  else .ret (.tup [.bool (decide ((a.cm.length : Int) > 0)), .int .i64 0]) [] else .fail := by kernel_rfl
structure OkA (a : At) : Prop where
 ori : 0 ≤ a.ori ∧ a.ori < 256
 pl : a.path.length ≤ 100
 pw : okW a.path = true
 nx : 0 ≤ a.nx ∧ a.nx < 4294967296
 med : 0 ≤ a.med ∧ a.med < 4294967296
 prf : 0 ≤ a.prf ∧ a.prf < 4294967296
 orr : 0 ≤ a.orr ∧ a.orr < 4294967296
 cl : a.cl.length ≤ 100
 cw : okW a.cl = true
 cm : a.cm.length ≤ 100
 tk : 0 ≤ a.tk ∧ a.tk < 256
 tl : 0 ≤ a.tl ∧ a.tl < 16777216
 tr : 0 ≤ a.tr ∧ a.tr < 4294967296
 tg : 0 ≤ a.tg ∧ a.tg < 4294967296
def pathB (a : At) : List SV := bif decide ((a.path.length : Int) > 0) then be 2 1 ++ be (w6 a.path.length) 1 ++ wds a.path.length a.path 0 else []
def valB : Nat → At → List SV → List SV → List SV
 | 0, a, _, _ => be (w6 a.ori) 1
 | 1, a, _, _ => pathB a
 | 2, a, _, _ => be (w6 a.med) 4
 | 3, a, _, _ => be (w6 a.prf) 4
 | 4, a, _, _ => be (w6 a.orr) 4
 | 5, a, _, _ => wds a.cl.length a.cl 0
 | 6, a, R, _ => reachB a R
 | 7, _, _, U => unreachB U
 | 8, a, _, _ => cmBs a.cm.length a.cm 0
 | _, a, _, _ => tunA a
def wrB : Nat → At → List SV → List SV → Bool
 | 0, _, R, _ => decide ((R.length : Int) > 0)
 | 1, _, R, _ => decide ((R.length : Int) > 0)
 | 2, a, _, _ => a.hm
 | 3, a, _, _ => a.hp
 | 4, a, _, _ => a.ho
 | 5, a, _, _ => decide ((a.cl.length : Int) > 0)
 | 6, _, R, _ => decide ((R.length : Int) > 0)
 | 7, _, R, U => bif decide ((U.length : Int) > 0) then true else (R.length : Int) == 0
 | 8, a, _, _ => decide ((a.cm.length : Int) > 0)
 | _, a, _, _ => a.tk != 0
structure Draft where
 a : At
 R : List SV
 U : List SV
 kr : Nat
 ku : Nat
 m : Nat
 es : List SV
def dOf : HpL → Option Draft
 | [(0, .cells 97 [.int .i64 ori, .psl 26 path, .int .u32 nx, .bool hm, .int .u32 med, .bool hp, .int .u32 prf, .bool ho, .int .u32 orr, .psl 27 cl, .psl 91 cm, .int .i64 tk, .int .u32 tl, .int .u32 tr, .int .u32 tg, .qs 1 1 0 kr, .qs 2 1 0 ku]), (1, .seq 5 R), (2, .seq 5 U), (3, .cells 133 [.qs 4 1 0 m, .int .i64 65535, .mp 5]), (4, .seq 5 es), (5, .mpc [] [])] => some ⟨⟨ori, path, nx, hm, med, hp, prf, ho, orr, cl, cm, tk, tl, tr, tg⟩, R, U, kr, ku, m, es⟩
 | _ => none
theorem dOf_h {H : HpL} {d : Draft} (h : dOf H = some d) : H = dH d.a d.R d.U d.kr d.ku d.m d.es := by
 unfold dOf at h
 split at h
 · cases h; rfl
 · cases h
structure OkD (d : Draft) : Prop where
 a : OkA d.a
 R : d.R.length ≤ 40000
 U : d.U.length ≤ 40000
 kr : d.kr = d.R.length
 ku : d.ku = d.U.length
noncomputable def row_s (r : Nat) : CSumm := fun args H => match args with
 | [.ptr 0 0, .agg [.ptr 3 0]] => match dOf H with
  | some d => .ite (dec (OkD d ∧ d.m = 0 ∧ d.es = [])) (rowR (wrB r d.a d.R d.U) (valB r d.a d.R d.U).length (valB r d.a d.R d.U)) .fail
  | none => .fail
 | _ => .fail
theorem row_case {r : Nat} {args : List SV} {H : HpL} {v : SV} {ups : List (Nat × Option Chunk)} (h : crun (row_s r args H) = some (v, ups)) :
  ∃ (a : At) (R U : List SV), args = vArgs ∧ H = dH a R U R.length U.length 0 [] ∧ OkA a ∧ R.length ≤ 40000 ∧ U.length ≤ 40000 ∧ crun (rowR (wrB r a R U) (valB r a R U).length (valB r a R U)) = some (v, ups) := by
 unfold row_s at h
 split at h
 · split at h
   · rename_i d hd
     rw [crun_ite] at h
     cases hc : dec (OkD d ∧ d.m = 0 ∧ d.es = []) with
     | false => rw [hc] at h; cases h
     | true =>
      rw [hc] at h
      obtain ⟨ho, h1, h2⟩ := dec_iff.1 hc
      refine ⟨d.a, d.R, d.U, rfl, ?_, ho.a, ho.R, ho.U, h⟩
      rw [dOf_h hd, ho.kr, ho.ku, h1, h2]
   · cases h
 · cases h
theorem row0_k : Known Tryz.prog 41 (row_s 0) := (openKnown wOk Tryz.func41 rfl).weak (by
 intro args H v ups h
 obtain ⟨a, R, U, rfl, rfl, ho, hR, hU, h⟩ := row_case h
 have hw : w6 a.ori = a.ori := w6_id ho.ori.1 (by have := ho.ori.2; omega)
 rw [row36, Wc_ok (show 0 = ([] : List SV).length from rfl) (by rw [hw]; exact ho.ori.1) (by rw [hw]; exact ho.ori.2) (by simp)]
 exact h)
theorem row2_k : Known Tryz.prog 43 (row_s 2) := (openKnown wOk Tryz.func43 rfl).weak (by
 intro args H v ups h
 obtain ⟨a, R, U, rfl, rfl, ho, hR, hU, h⟩ := row_case h
 have hw : w6 a.med = a.med := w6_id ho.med.1 (by have := ho.med.2; omega)
 rw [row38, Wc_ok (show 0 = ([] : List SV).length from rfl) (by rw [hw]; exact ho.med.1) (by rw [hw]; exact ho.med.2) (by simp)]
 exact h)
theorem row3_k : Known Tryz.prog 44 (row_s 3) := (openKnown wOk Tryz.func44 rfl).weak (by
 intro args H v ups h
 obtain ⟨a, R, U, rfl, rfl, ho, hR, hU, h⟩ := row_case h
 have hw : w6 a.prf = a.prf := w6_id ho.prf.1 (by have := ho.prf.2; omega)
 rw [row39, Wc_ok (show 0 = ([] : List SV).length from rfl) (by rw [hw]; exact ho.prf.1) (by rw [hw]; exact ho.prf.2) (by simp)]
 exact h)
theorem row4_k : Known Tryz.prog 45 (row_s 4) := (openKnown wOk Tryz.func45 rfl).weak (by
 intro args H v ups h
 obtain ⟨a, R, U, rfl, rfl, ho, hR, hU, h⟩ := row_case h
 have hw : w6 a.orr = a.orr := w6_id ho.orr.1 (by have := ho.orr.2; omega)
 rw [row40, Wc_ok (show 0 = ([] : List SV).length from rfl) (by rw [hw]; exact ho.orr.1) (by rw [hw]; exact ho.orr.2) (by simp)]
 exact h)
theorem row6_k : Known Tryz.prog 47 (row_s 6) := (openKnown wOk Tryz.func47 rfl).weak (by
 intro args H v ups h
 obtain ⟨a, R, U, rfl, rfl, ho, hR, hU, h⟩ := row_case h
 have hw : w6 a.nx = a.nx := w6_id ho.nx.1 (by have := ho.nx.2; omega)
 rw [row42, Wc_ok (by simp [fam, be_len]) (by rw [hw]; exact ho.nx.1) (by rw [hw]; exact ho.nx.2) (by simp [fam, be_len]), decide_eq_true rfl, decide_eq_true ⟨by simp [fam, be_len], by simp [fam, be_len]; omega, by omega⟩, cond_true, cond_true]
 rw [← h]
 simp [wrB, valB, reachB, rowR, Nat.add_assoc])
theorem row7_k : Known Tryz.prog 48 (row_s 7) := (openKnown wOk Tryz.func48 rfl).weak (by
 intro args H v ups h
 obtain ⟨a, R, U, rfl, rfl, ho, hR, hU, h⟩ := row_case h
 rw [row43, decide_eq_true rfl, decide_eq_true ⟨by simp [fam, be_len], by simp [fam, be_len]; omega, by omega⟩, cond_true, cond_true]
 rw [← h]
 simp [wrB, valB, unreachB, rowR])
theorem row9_k : Known Tryz.prog 50 (row_s 9) := (openKnown wOk Tryz.func50 rfl).weak (by
 intro args H v ups h
 obtain ⟨a, R, U, rfl, rfl, ho, hR, hU, h⟩ := row_case h
 have h1 : w6 a.tk = a.tk := w6_id ho.tk.1 (by have := ho.tk.2; omega)
 have h2 : w6 a.tl = a.tl := w6_id ho.tl.1 (by have := ho.tl.2; omega)
 have h3 : w6 a.tr = a.tr := w6_id ho.tr.1 (by have := ho.tr.2; omega)
 have h4 : w6 a.tg = a.tg := w6_id ho.tg.1 (by have := ho.tg.2; omega)
 rw [row45, Wc_ok (by simp [be_len]) (by rw [h1]; exact ho.tk.1) (by rw [h1]; exact ho.tk.2) (by simp [be_len]), Wc_ok (by simp [be_len]) (by rw [h2]; exact ho.tl.1) (by rw [h2]; exact ho.tl.2) (by simp [be_len]), Wc_ok (by simp [be_len]) (by rw [h3]; exact ho.tr.1) (by rw [h3]; exact ho.tr.2) (by simp [be_len]), Wc_ok (by simp [be_len, tunB]) (by rw [h4]; exact ho.tg.1) (by rw [h4]; exact ho.tg.2) (by simp [be_len, tunB])]
 rw [← h]
 show _ = crun (rowR (a.tk != 0) (tunA a).length (tunA a))
 unfold tunA
 cases (a.tk == 3) <;> rfl)
theorem dH_ren (a : At) (R U : List SV) (kr ku : Nat) : ∀ x, updF [(3, some (.cells 133 [.qs 6 1 0 0, .int .i64 65535, .mp 5])), (4, none), (6, some (.seq 5 []))] (dH a R U kr ku 0 []).get x =
  if x = 6 then (updF [] (dH a R U kr ku 0 []).get 4).map (renC (sw 4 6)) else if x = 4 then none else (updF [] (dH a R U kr ku 0 []).get x).map (renC (sw 4 6))
 | 0 => rfl | 1 => rfl | 2 => rfl | 3 => rfl | 4 => rfl | 5 => rfl | 6 => rfl
 | x + 7 => by
  have h1 : ∀ k, k < 7 → ¬ (x + 7 = k) := fun k hk => by omega
  have h2 : ∀ k, k < 7 → Nat.beq k (x + 7) = false := fun k hk => nb_f (by omega)
  simp only [updF, dH, HpL.get, h1 3 (by omega), h1 4 (by omega), h1 6 (by omega), if_false, h2 0 (by omega), h2 1 (by omega), h2 2 (by omega), h2 3 (by omega), h2 4 (by omega), h2 5 (by omega), cond_false, Option.map_none]
theorem dH_names (a : At) (R U : List SV) (kr ku : Nat) : ∀ x c, updF [] (dH a R U kr ku 0 []).get x = some c → 6 ∉ namesC c := by
 intro x c h
 have h : HpL.get (dH a R U kr ku 0 []) x = some c := h
 have := HpL_get_some _ _ _ h
 simp only [dH, List.mem_cons, Prod.mk.injEq, List.not_mem_nil, or_false] at this
 rcases this with ⟨_, rfl⟩ | ⟨_, rfl⟩ | ⟨_, rfl⟩ | ⟨_, rfl⟩ | ⟨_, rfl⟩ | ⟨_, rfl⟩ <;> simp [namesC, namesL, namesS, dCW]
theorem no_rounds {f : Nat} {s : CSumm} {a : At} {R U : List SV} {w : Bool} {v : SV} {ups : List (Nat × Option Chunk)} (hs : crun (s vArgs (dH a R U R.length U.length 0 [])) = some (.tup [.bool w, .int .i64 0], [])) (h : crun (rowR w 0 []) = some (v, ups)) :
  ∃ v2 ups2, crun (s vArgs (dH a R U R.length U.length 0 [])) = some (v2, ups2) ∧ Renamed (dH a R U R.length U.length 0 []) v2 ups2 v ups := by
 cases h
 exact ⟨_, [], hs, 4, 6, by simp [dH], by simp [namesS, namesL], dH_names a R U _ _, rfl, dH_ren a R U _ _⟩
theorem lft0 (n : Nat) : lft (n : Int) 0 = n := by unfold lft; omega
theorem invW0 {l : List SV} {m : Nat} (h : l.length ≤ 1000) (hm : m ≤ 60000) : invW l 0 m = true := invW_iff.2 ⟨by omega, by omega, h, hm⟩
theorem row5_k : Known Tryz.prog 46 (row_s 5) := known_ren (s := p41_b) ⟨⟨Tryz.f46, Tryz.func46, noNum_at noNumTry Tryz.func46, rfl⟩, bodyL_valid (openT_ok noNumTry mixTry wOk 300 5) mixTry (ltab_cons w41_valid ltab_nil) Tryz.func46 fill41⟩ (by
 intro args H v ups h
 obtain ⟨a, R, U, rfl, rfl, ho, hR, hU, h⟩ := row_case h
 have hl := ho.cl
 have hc : (decide (0 = ([] : List SV).length) && (decide ((a.cl.length : Int) = a.cl.length) && invW a.cl 0 (0 + 4 * lft a.cl.length 0) && okW a.cl)) = true := by
  rw [lft0, invW0 (by omega) (by omega), ho.cw, decide_eq_true rfl]; rfl
 have ht := p41_t a R U R.length U.length
 rw [hc, cond_true] at ht
 by_cases h0 : (0 : Int) < a.cl.length
 · left
   have hw : wrB 5 a R U = true := decide_eq_true h0
   rw [hw] at h
   rw [decide_eq_true h0, cond_true, lft0] at ht
   rw [ht]
   cases h
   refine ⟨_, rfl, fun x => ?_⟩
   simp only [updF, valB, List.nil_append, List.length_nil, Nat.zero_add]
   by_cases h4 : x = 4
   · subst h4; rfl
   · rw [if_neg h4, if_neg h4]
 · right
   have hw : wrB 5 a R U = false := decide_eq_false h0
   rw [hw] at h
   rw [decide_eq_false h0, cond_false] at ht
   have he : a.cl.length = 0 := by omega
   refine no_rounds (f := 46) (w := false) (congrArg crun ht) ?_
   simpa [valB, he, wds] using h)
theorem row8_k : Known Tryz.prog 49 (row_s 8) := known_ren (s := p44_b) ⟨⟨Tryz.f49, Tryz.func49, noNum_at noNumTry Tryz.func49, rfl⟩, bodyL_valid (openT_ok noNumTry mixTry wOk 300 5) mixTry (ltab_cons w44_valid ltab_nil) Tryz.func49 fill44⟩ (by
 intro args H v ups h
 obtain ⟨a, R, U, rfl, rfl, ho, hR, hU, h⟩ := row_case h
 have hl := ho.cm
 have hc : (decide (0 = ([] : List SV).length) && (decide ((a.cm.length : Int) = a.cm.length) && invW a.cm 0 (0 + 8 * lft a.cm.length 0))) = true := by
  rw [lft0, invW0 (by omega) (by omega), decide_eq_true rfl]; rfl
 have ht := p44_t a R U R.length U.length
 rw [hc, cond_true] at ht
 by_cases h0 : (0 : Int) < a.cm.length
 · left
   have hw : wrB 8 a R U = true := decide_eq_true h0
   rw [hw] at h
   rw [decide_eq_true h0, cond_true, lft0] at ht
   rw [ht]
   cases h
   refine ⟨_, rfl, fun x => ?_⟩
   simp only [valB, List.nil_append, List.length_nil, Nat.zero_add]
 · right
   have hw : wrB 8 a R U = false := decide_eq_false h0
   rw [hw] at h
   rw [decide_eq_false h0, cond_false] at ht
   have he : a.cm.length = 0 := by omega
   refine no_rounds (f := 49) (w := false) (congrArg crun ht) ?_
   simpa [valB, he, cmBs] using h)
theorem row1_k : Known Tryz.prog 42 (row_s 1) := known_ren (s := p37_b) ⟨⟨Tryz.f42, Tryz.func42, noNum_at noNumTry Tryz.func42, rfl⟩, bodyL_valid (openT_ok noNumTry mixTry wOk 300 5) mixTry (ltab_cons w37_valid ltab_nil) Tryz.func42 fill37⟩ (by
 intro args H v ups h
 obtain ⟨a, R, U, rfl, rfl, ho, hR, hU, h⟩ := row_case h
 have hl := ho.pl
 have ht := p37_t a R U R.length U.length
 have hv : valB 1 a R U = pathB a := rfl
 rw [hv] at h
 by_cases h0 : (0 : Int) < a.path.length
 · left
   have hw : w6 a.path.length = a.path.length := w6_id (by omega) (by omega)
   have hp : pathB a = [] ++ be 2 1 ++ be (w6 a.path.length) 1 ++ wds a.path.length a.path 0 := by
    unfold pathB; rw [decide_eq_true h0]; rfl
   rw [decide_eq_true (show (a.path.length : Int) > 0 from h0), cond_true, Wc_ok (by simp [be_len]) (by rw [hw]; omega) (by rw [hw]; omega) (by simp [be_len]), decide_eq_true (by simp [be_len]), decide_eq_true rfl, lft0, invW0 (by omega) (by simp [be_len]; omega), ho.pw] at ht
   rw [ht, ← List.length_append, ← hp]
   cases h
   exact ⟨_, rfl, fun x => rfl⟩
 · right
   have hc : (decide (0 = ([] : List SV).length) && (decide ((a.path.length : Int) = a.path.length) && invW a.path 0 (0 + 4 * lft a.path.length 0) && okW a.path)) = true := by
    rw [lft0, invW0 (by omega) (by omega), ho.pw, decide_eq_true rfl]; rfl
   rw [decide_eq_false (show ¬ (a.path.length : Int) > 0 from h0), cond_false, hc, cond_true, cond_false] at ht
   have hp : pathB a = [] := by unfold pathB; rw [decide_eq_false (show ¬ (a.path.length : Int) > 0 from h0)]; rfl
   rw [hp] at h
   exact no_rounds (f := 42) (w := wrB 1 a R U) (congrArg crun ht) h)
end Go.Proofs.YtdgnhaacdpmclaaGreat
