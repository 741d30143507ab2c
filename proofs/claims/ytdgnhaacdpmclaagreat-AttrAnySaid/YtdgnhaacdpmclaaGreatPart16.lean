/- Routes: lists. -/
import Derived.Test.YtdgnhaacdpmclaaGreatPart15
import Derived.Test.YtdgnhaacdpmclaaGreatMachine7
set_option linter.unusedVariables false
set_option linter.unusedSimpArgs false
namespace Go.Proofs.YtdgnhaacdpmclaaGreat
open Go.Am
set_option maxRecDepth 100000
def nlAt (x : SV) : Nl := ⟨asI (cellAt x 0), asI (cellAt x 1), asI (cellAt x 2), asI (cellAt x 3), asI (cellAt x 4), asI (cellAt x 5), asI (cellAt x 6), asI (cellAt x 7), asI (cellAt x 8), asI (cellAt x 9), asI (cellAt x 10), asI (cellAt x 11), asI (cellAt x 12), asI (cellAt x 13), asI (cellAt x 14), asB (cellAt x 15), asI (cellAt x 16), asI (cellAt x 17), asI (cellAt x 18), asI (cellAt x 19), asI (cellAt x 20)⟩
def rt (l : List SV) (i : Int) : Nl := nlAt (l.getD i.toNat .junk)
def nbAll : Nat → List SV → Int → List SV
 | 0, _, _ => []
 | k + 1, l, i => nb (rt l i) ++ nbAll k l (i + 1)
noncomputable def okAll : Nat → List SV → Int → Bool
 | 0, _, _ => true
 | k + 1, l, i => decide (chk (rt l i) = 0 ∧ OkP (rt l i)) && okAll k l (i + 1)
def lft (n i : Int) : Nat := (n - i).toNat
noncomputable def invR (l : List SV) (n i : Int) (m : Nat) : Bool := decide (0 ≤ i) && decide (i ≤ n) && decide (n = l.length) && decide (n ≤ 1000) && decide (m ≤ 60000) && okAll (lft n i) l i
noncomputable def encLs : CSumm
 | [.psl 49 l, .int .i64 n, .int .i64 i, .nils], [] => .ite (invR l n i 0) (.ite (decide (i < n)) (.ret (.tup [.int .i64 2, .qs 0 1 0 (nbAll (lft n i) l i).length]) [(0, some (.seq 5 (nbAll (lft n i) l i)))]) (.ret (.tup [.int .i64 2, .nils]) [])) .fail
 | [.psl 49 l, .int .i64 n, .int .i64 i, .qs 0 1 0 m], [(0, .seq 5 es)] => .ite (decide (m = es.length) && invR l n i (m + 42 * lft n i)) (.ite (decide (i < n)) (.ret (.tup [.int .i64 2, .qs 1 1 0 (es.length + (nbAll (lft n i) l i).length)]) [(0, none), (1, some (.seq 5 (es ++ nbAll (lft n i) l i)))]) (.ret (.tup [.int .i64 2, .qs 0 1 0 m]) [])) .fail
 | _, _ => .fail
def encM : List SV → HpL → Nat
 | [.psl _ _, .int _ n, .int _ i, _], _ => lft n i
 | _, _ => 0
noncomputable def body17 : Code := Tryz.f33.body.getD .skip
noncomputable def c17 : Code := (loopAt 3 body17).getD .skip
noncomputable def e17 : LEnt := { ins := [9, 10, 11, 4], outs := [4], keep := [], size := 28, code := c17, s := encLs }
noncomputable abbrev κf := tbl [(80, nbytes_s)]
theorem okf : KOk Tryz.prog κf := tbl_cons nbytes_k ok0
noncomputable abbrev κfo := openT Tryz.prog κf 300 5
noncomputable abbrev ιf : Nat → Bool := fun g => inl κf g && hasBody Tryz.prog g
noncomputable def nextE (N : Nat) (l : List SV) (n i : Int) (nw : Nat) (ups : List (Nat × Option Chunk)) (m : Nat) (ys : List SV) : CTree :=
 bif Nat.blt (lft n i) N then bif decide (m = ys.length) && invR l n i (m + 42 * lft n i) then bif decide (i < n) then .ret (.tup [.int .i64 2, .qs nw 1 0 (ys.length + (nbAll (lft n i) l i).length)]) (ups ++ [(nw, some (.seq 5 (ys ++ nbAll (lft n i) l i)))])
  else .ret (.tup [.int .i64 2, .qs nw 1 0 m]) (ups ++ [(nw, some (.seq 5 ys))]) else .fail else .fail
noncomputable def growE (N : Nat) (l : List SV) (n i : Int) (nw : Nat) (ups : List (Nat × Option Chunk)) (m : Nat) (ys : List SV) : CTree :=
 bif lenOk m then bif decide ((m : Int) > 65535) then .ret (.tup [.int .i64 1, .qs nw 1 0 m]) (ups ++ [(nw, some (.seq 5 ys))]) else nextE N l n i nw ups m ys else .fail
noncomputable def bothE (xs : List SV) (g : List SV → CTree) : CTree :=
 bif decide (xs.length = xs.length) then g xs else bif decide (0 + xs.length ≤ xs.length) then g ((xs.drop 0).take xs.length) else .fail
theorem round17a (N : Nat) (l : List SV) (n i : Int) : loopOnce Tryz.prog κfo ιf (ltab []) true 300 e17 { e17 with s := boundT encM encLs N } c17 [.psl 49 l, .int .i64 n, .int .i64 i, .nils] [] =
 bif decide (i < n) then bif inB i l.length then bif decide (chk (rt l i) = 0 ∧ OkP (rt l i)) then bothE (nb (rt l i)) (fun ys => growE N l n (IntKind.i64.wrap (i + 1)) 0 [] (0 + ys.length) ys) else .fail else .fail else .ret (.tup [.int .i64 2, .nils]) [] := by kernel_rfl
theorem round17b (N : Nat) (l : List SV) (n i : Int) (m : Nat) (es : List SV) : loopOnce Tryz.prog κfo ιf (ltab []) true 300 e17 { e17 with s := boundT encM encLs N } c17 [.psl 49 l, .int .i64 n, .int .i64 i, .qs 0 1 0 m] [(0, .seq 5 es)] =
 bif decide (i < n) then bif inB i l.length then bif decide (chk (rt l i) = 0 ∧ OkP (rt l i)) then bif decide (m = es.length) then bothE (nb (rt l i)) (fun ys => growE N l n (IntKind.i64.wrap (i + 1)) 1 [(0, none)] (es.length + ys.length) (es ++ ys)) else .fail else .fail else .fail else .ret (.tup [.int .i64 2, .qs 0 1 0 m]) [] := by kernel_rfl
theorem invR_iff {l : List SV} {n i : Int} {m : Nat} : invR l n i m = true ↔ 0 ≤ i ∧ i ≤ n ∧ n = l.length ∧ n ≤ 1000 ∧ m ≤ 60000 ∧ okAll (lft n i) l i = true := by
 simp only [invR, Bool.and_eq_true, decide_eq_true_eq, and_assoc]
theorem lft_succ {n i : Int} (h : i < n) : lft n i = lft n (i + 1) + 1 := by unfold lft; omega
theorem lft_zero {n i : Int} (h : ¬i < n) : lft n i = 0 := by unfold lft; omega
theorem nb_len (n : Nl) : (nb n).length ≤ 42 := by
 obtain ⟨l1, l2, l3, l4, l5⟩ := val_len n
 unfold nb
 cases n.kind == 1 <;> cases n.kind == 2 <;> cases n.kind == 3 <;> cases n.kind == 4 <;> simp [encL] <;> omega
theorem nextE_ok {N : Nat} {l : List SV} {n i : Int} {nw : Nat} {ups : List (Nat × Option Chunk)} {ys : List SV} (h1 : lft n i < N) (h2 : invR l n i (ys.length + 42 * lft n i) = true) :
  nextE N l n i nw ups ys.length ys = .ret (.tup [.int .i64 2, .qs nw 1 0 (ys.length + (nbAll (lft n i) l i).length)]) (ups ++ [(nw, some (.seq 5 (ys ++ nbAll (lft n i) l i)))]) := by
 have hb : Nat.blt (lft n i) N = true := by rw [Nat.blt_eq]; exact h1
 unfold nextE
 rw [hb, h2, decide_eq_true rfl]
 by_cases hlt : i < n
 · rw [decide_eq_true hlt]; rfl
 · rw [decide_eq_false hlt, lft_zero hlt]
   simp [nbAll]
theorem roundE {N : Nat} {l : List SV} {n i : Int} {nw : Nat} {ups : List (Nat × Option Chunk)} {es : List SV} {m : Nat} (hlt : i < n) (hb : lft n i < N + 1) (hm : m = es.length) (h2 : invR l n i (es.length + 42 * lft n i) = true) :
  (bif inB i l.length then bif decide (chk (rt l i) = 0 ∧ OkP (rt l i)) then bothE (nb (rt l i)) (fun ys => growE N l n (IntKind.i64.wrap (i + 1)) nw ups (m + ys.length) (es ++ ys)) else .fail else .fail) =
   .ret (.tup [.int .i64 2, .qs nw 1 0 (es.length + (nbAll (lft n i) l i).length)]) (ups ++ [(nw, some (.seq 5 (es ++ nbAll (lft n i) l i)))]) := by
 subst hm
 obtain ⟨h0, h3, h4, h5, h6, h7⟩ := invR_iff.1 h2
 have hl := nb_len (rt l i)
 rw [lft_succ hlt] at h7
 simp only [okAll, Bool.and_eq_true, decide_eq_true_eq] at h7
 have hin : inB i l.length = true := by unfold inB; simp; omega
 have hle : lft n (i + 1) + 1 = lft n i := (lft_succ hlt).symm
 have hw : IntKind.i64.wrap (i + 1) = i + 1 := w64_id (by omega) (by omega)
 have hi2 : invR l n (i + 1) ((es ++ nb (rt l i)).length + 42 * lft n (i + 1)) = true := invR_iff.2 ⟨by omega, by omega, h4, h5, by rw [List.length_append]; omega, h7.2⟩
 have hlen : es.length + (nb (rt l i)).length ≤ 60000 := by omega
 rw [hin, decide_eq_true h7.1, hw]
 simp only [bothE, growE, cond_true, decide_true]
 rw [lenOk_t (by omega), decide_eq_false (by omega), ← List.length_append, cond_true, cond_false, nextE_ok (by omega) hi2, ← hle]
 simp [nbAll, Nat.add_assoc]
theorem encode_valid : ValidL Tryz.prog e17 := loop_valid (κ := κfo) (ι := ιf) (T := ltab []) (sp := true) (fuel := 300) (c := c17) (μ := encM) (openT_ok noNumTry mixTry okf 300 5) mixTry ltab_nil (show fillC (ltab []) c17 = c17 by kernel_rfl) (by
 intro N args H r hb hr
 have hr' : crun (encLs args H) = some r := hr
 unfold encLs at hr'
 split at hr'
 · rename_i l n i
   rw [crun_ite, crun_ite] at hr'
   cases hc : invR l n i 0 with
   | false => rw [hc] at hr'; cases hr'
   | true =>
    rw [hc, cond_true] at hr'
    have hb' : lft n i < N + 1 := by
     have : Nat.blt (lft n i) (N + 1) = true := hb
     rwa [Nat.blt_eq] at this
    rw [← hr']
    refine (congrArg crun (round17a N l n i)).trans ?_
    by_cases hlt : i < n
    · obtain ⟨h0, h3, h4, h5, h6, h7⟩ := invR_iff.1 hc
      rw [decide_eq_true hlt]
      have := roundE (N := N) (l := l) (n := n) (i := i) (nw := 0) (ups := []) (es := []) hlt hb' rfl (invR_iff.2 ⟨h0, h3, h4, h5, by unfold lft; simp; omega, h7⟩)
      simp only [List.nil_append, List.length_nil, Nat.zero_add] at this
      simp only [Nat.zero_add, cond_true]
      rw [this]
    · rw [decide_eq_false hlt]; rfl
 · rename_i l n i m es
   rw [crun_ite, crun_ite] at hr'
   cases hc : (decide (m = es.length) && invR l n i (m + 42 * lft n i)) with
   | false => rw [hc] at hr'; cases hr'
   | true =>
    rw [hc, cond_true] at hr'
    rw [Bool.and_eq_true, decide_eq_true_eq] at hc
    obtain ⟨rfl, hi⟩ := hc
    have hb' : lft n i < N + 1 := by
     have : Nat.blt (lft n i) (N + 1) = true := hb
     rwa [Nat.blt_eq] at this
    rw [← hr']
    refine (congrArg crun (round17b N l n i es.length es)).trans ?_
    by_cases hlt : i < n
    · rw [decide_eq_true hlt, decide_eq_true rfl]
      simp only [cond_true]
      rw [roundE (N := N) (nw := 1) (ups := [(0, none)]) hlt hb' rfl hi]
      rfl
    · rw [decide_eq_false hlt]; rfl
 · cases hr')
noncomputable abbrev T17 : LTab := ltab [("s", e17)]
noncomputable def m17 : Code := markC [(3, "s")] body17
theorem fill17 : Tryz.f33.body = some (fillC T17 m17) := by kernel_rfl
noncomputable abbrev encode_b : CSumm := bodyCL Tryz.prog κfo ιf T17 true 300 Tryz.f33 m17
theorem encode_t (l : List SV) : encode_b [.psl 49 l] [] = bif invR l l.length 0 0 then bif decide ((0 : Int) < l.length) then .ret (.tup [.qs 0 1 0 (nbAll (lft l.length 0) l 0).length, .bool true]) [(0, some (.seq 5 (nbAll (lft l.length 0) l 0)))] else .ret (.tup [.nils, .bool true]) [] else .fail := by kernel_rfl
def nbs (l : List SV) : List SV := nbAll l.length l 0
noncomputable def okR (l : List SV) : Bool := decide (l.length ≤ 1000) && okAll l.length l 0
noncomputable def encs_s : CSumm
 | [.psl 49 l], [] => .ite (okR l) (.ret (.tup [.qs 0 1 0 (nbs l).length, .bool true]) [(0, some (.seq 5 (nbs l)))]) .fail
 | _, _ => .fail
theorem encs_k : Known Tryz.prog 33 encs_s := known_grown1 (s := encode_b) ⟨⟨Tryz.f33, Tryz.func33, noNum_at noNumTry Tryz.func33, rfl⟩, bodyL_valid (openT_ok noNumTry mixTry okf 300 5) mixTry (ltab_cons encode_valid ltab_nil) Tryz.func33 fill17⟩ (by
 intro args H v ups h
 unfold encs_s at h
 split at h
 · rename_i l
   rw [crun_ite] at h
   cases hc : okR l with
   | false => rw [hc] at h; cases h
   | true =>
    rw [hc] at h
    cases h
    simp only [okR, Bool.and_eq_true, decide_eq_true_eq] at hc
    have hl : lft (l.length : Int) 0 = l.length := by unfold lft; omega
    have hi : invR l l.length 0 0 = true := invR_iff.2 ⟨by omega, by omega, rfl, by omega, by omega, by rw [hl]; exact hc.2⟩
    by_cases h0 : (0 : Int) < l.length
    · left
      rw [encode_t, hi, decide_eq_true h0, hl]; rfl
    · right
      have hz : l = [] := List.length_eq_zero_iff.1 (by omega)
      subst hz
      refine ⟨.bool true, 1, 5, rfl, rfl, rfl, rfl, rfl, ?_⟩
      rw [encode_t, hi, decide_eq_false h0]; rfl
 · cases h)
end Go.Proofs.YtdgnhaacdpmclaaGreat
/- The bytes of an attribute. -/
namespace Go.Proofs.YtdgnhaacdpmclaaGreat
open Go.Am
set_option maxRecDepth 100000
def orF (f : Int) : Int := IntKind.u8.wrap (((BitVec.ofInt IntKind.u8.bits f) ||| (BitVec.ofInt IntKind.u8.bits 16)).toNat : Int)
def hdL (f c : Int) : List SV := [.int .u8 (orF f), .int .u8 c]
def hdS (f c k : Int) : List SV := [.int .u8 f, .int .u8 c, .int .u8 k]
def atB (f c : Int) (v : List SV) : List SV := bif decide ((v.length : Int) > 255) then hdL f c ++ be (IntKind.u64.wrap v.length) 2 ++ v else hdS f c (IntKind.u8.wrap v.length) ++ v
theorem atB_len (f c : Int) (v : List SV) : (atB f c v).length ≤ v.length + 4 := by
 unfold atB
 cases decide ((v.length : Int) > 255) <;> simp [hdL, hdS, be_len] <;> omega
def wdB (l : List SV) (i : Int) : List SV := be (IntKind.u64.wrap (asI (l.getD i.toNat .junk))) 4
def wds : Nat → List SV → Int → List SV
 | 0, _, _ => []
 | k + 1, l, i => wdB l i ++ wds k l (i + 1)
def invW (l : List SV) (i : Int) (m : Nat) : Bool := decide (0 ≤ i) && decide (i ≤ l.length) && decide (l.length ≤ 1000) && decide (m ≤ 60000)
theorem invW_iff {l : List SV} {i : Int} {m : Nat} : invW l i m = true ↔ 0 ≤ i ∧ i ≤ l.length ∧ l.length ≤ 1000 ∧ m ≤ 60000 := by
 simp only [invW, Bool.and_eq_true, decide_eq_true_eq, and_assoc]
theorem wdB_len (l : List SV) (i : Int) : (wdB l i).length = 4 := be_len _ 4
theorem wds_len (l : List SV) : ∀ (k : Nat) (i : Int), (wds k l i).length = 4 * k
 | 0, _ => rfl
 | k + 1, i => by rw [wds, List.length_append, wdB_len, wds_len l k]; omega
end Go.Proofs.YtdgnhaacdpmclaaGreat
/- Checks of attributes and routes. -/
namespace Go.Proofs.YtdgnhaacdpmclaaGreat
open Go.Am
set_option maxRecDepth 100000
def fst : Nat → List SV → Int → Int
 | 0, _, _ => 0
 | k + 1, l, i => bif chk (rt l i) != 0 then chk (rt l i) else fst k l (i + 1)
noncomputable def chLs : CSumm
 | [.psl 49 l, .int .i64 n, .int .i64 i, .int .i64 r], [] => .ite (decide (0 ≤ i) && decide (i ≤ n) && decide (n = l.length) && decide (n ≤ 1000)) (.ite (fst (lft n i) l i != 0) (.ret (.tup [.int .i64 1, .int .i64 (fst (lft n i) l i)]) []) (.ret (.tup [.int .i64 4, .int .i64 r]) [])) .fail
 | _, _ => .fail
def chM : List SV → HpL → Nat
 | [.psl _ _, .int _ n, .int _ i, _], _ => lft n i
 | _, _ => 0
noncomputable def body16 : Code := Tryz.f32.body.getD .skip
noncomputable def c16 : Code := (loopAt 10 body16).getD .skip
noncomputable def e16 : LEnt := { ins := [32, 33, 34, 6], outs := [6], keep := [28, 29], size := 45, code := c16, s := chLs }
noncomputable abbrev κhW := tbl [(79, check_s)]
theorem okh : KOk Tryz.prog κhW := tbl_cons ncheck_k ok0
noncomputable abbrev κho := openT Tryz.prog κhW 300 5
noncomputable abbrev ιh : Nat → Bool := fun g => inl κhW g && hasBody Tryz.prog g
theorem round16 (N : Nat) (l : List SV) (n i r : Int) : loopOnce Tryz.prog κho ιh (ltab []) true 300 e16 { e16 with s := boundT chM chLs N } c16 [.psl 49 l, .int .i64 n, .int .i64 i, .int .i64 r] [] =
 bif decide (i < n) then bif inB i l.length then bif chk (rt l i) != 0 then .ret (.tup [.int .i64 1, .int .i64 (chk (rt l i))]) [] else
  bif Nat.blt (lft n (IntKind.i64.wrap (i + 1))) N then bif decide (0 ≤ IntKind.i64.wrap (i + 1)) && decide (IntKind.i64.wrap (i + 1) ≤ n) && decide (n = l.length) && decide (n ≤ 1000) then
   bif fst (lft n (IntKind.i64.wrap (i + 1))) l (IntKind.i64.wrap (i + 1)) != 0 then .ret (.tup [.int .i64 1, .int .i64 (fst (lft n (IntKind.i64.wrap (i + 1))) l (IntKind.i64.wrap (i + 1)))]) [] else .ret (.tup [.int .i64 4, .int .i64 r]) [] else .fail else .fail
 else .fail else .ret (.tup [.int .i64 4, .int .i64 r]) [] := by kernel_rfl
theorem check_valid : ValidL Tryz.prog e16 := loop_valid (κ := κho) (ι := ιh) (T := ltab []) (sp := true) (fuel := 300) (c := c16) (μ := chM) (openT_ok noNumTry mixTry okh 300 5) mixTry ltab_nil (show fillC (ltab []) c16 = c16 by kernel_rfl) (by
 intro N args H r hb hr
 have hr' : crun (chLs args H) = some r := hr
 unfold chLs at hr'
 split at hr'
 · rename_i l n i r0
   rw [crun_ite, crun_ite] at hr'
   cases hc : (decide (0 ≤ i) && decide (i ≤ n) && decide (n = l.length) && decide (n ≤ 1000)) with
   | false => rw [hc] at hr'; cases hr'
   | true =>
    rw [hc, cond_true] at hr'
    simp only [Bool.and_eq_true, decide_eq_true_eq] at hc
    obtain ⟨⟨⟨h0, h1⟩, h2⟩, h3⟩ := hc
    have hb' : lft n i < N + 1 := by
     have : Nat.blt (lft n i) (N + 1) = true := hb
     rwa [Nat.blt_eq] at this
    rw [← hr']
    refine (congrArg crun (round16 N l n i r0)).trans ?_
    by_cases hlt : i < n
    · have hs := lft_succ hlt
      have hw : IntKind.i64.wrap (i + 1) = i + 1 := w64_id (by omega) (by omega)
      have hin : inB i l.length = true := by unfold inB; simp; omega
      have hbb : Nat.blt (lft n (i + 1)) N = true := by rw [Nat.blt_eq]; omega
      have hcc : (decide (0 ≤ i + 1) && decide (i + 1 ≤ n) && decide (n = l.length) && decide (n ≤ 1000)) = true := by simp only [Bool.and_eq_true, decide_eq_true_eq]; omega
      rw [decide_eq_true hlt, hin, hw, hbb, hcc, hs]
      simp only [fst, cond_true]
      cases hk : (chk (rt l i) != 0) with
      | true => simp only [cond_true, hk]
      | false =>
       simp only [cond_false]
       cases fst (lft n (i + 1)) l (i + 1) != 0 <;> rfl
    · rw [decide_eq_false hlt, lft_zero hlt]; rfl
 · cases hr')
noncomputable abbrev T16 : LTab := ltab [("s", e16)]
noncomputable def m16 : Code := markC [(10, "s")] body16
theorem fill16 : Tryz.f32.body = some (fillC T16 m16) := by kernel_rfl
end Go.Proofs.YtdgnhaacdpmclaaGreat
/- Checks of attributes. -/
namespace Go.Proofs.YtdgnhaacdpmclaaGreat
open Go.Am
set_option maxRecDepth 100000
def ck1 (a : At) : Bool := bif decide (a.ori < 0) then true else decide (a.ori > 2)
def ck2 (a : At) : Bool := bif bif decide ((a.path.length : Int) > 32) then true else decide ((a.cl.length : Int) > 16) then true else decide ((a.cm.length : Int) > 64)
def ck3 (a : At) : Bool := bif bif bif !a.hm then a.med != 0 else false then true else bif !a.hp then a.prf != 0 else false then true else bif !a.ho then a.orr != 0 else false
def ck4 (a : At) : Bool := bif bif a.tk != 0 then a.tk != 3 else false then a.tk != 6 else false
def ck5 (a : At) : Bool := decide (a.tl > 16777215)
def ck6 (a : At) : Bool := bif a.tk == 0 then !(a.tk == 0 && (a.tl == 0 && (a.tr == 0 && a.tg == 0))) else false
def ck7 (a : At) : Bool := bif a.tk == 6 then a.tg != 0 else false
def achk (a : At) : Int := bif ck1 a then 2 else bif ck2 a then 5 else bif ck3 a then 3 else bif ck4 a then 6 else bif ck5 a then 2 else bif bif ck6 a then true else ck7 a then 3 else 0
def azero (a : At) : Bool :=
 bif bif bif bif bif bif bif bif bif bif bif a.ori == 0 then (a.path.length : Int) == 0 else false then a.nx == 0 else false then !a.hm else false then a.med == 0 else false then !a.hp else false then a.prf == 0 else false then !a.ho else false then a.orr == 0 else false then (a.cl.length : Int) == 0 else false then (a.cm.length : Int) == 0 else false then a.tk == 0 && (a.tl == 0 && (a.tr == 0 && a.tg == 0)) else false
theorem acheck_t (a : At) : opn (tbl []) Tryz.f78 [a.v] [] = bif ck1 a then .ret (.int .i64 2) [] else bif ck2 a then .ret (.int .i64 5) [] else bif ck3 a then .ret (.int .i64 3) [] else bif ck4 a then .ret (.int .i64 6) [] else bif ck5 a then .ret (.int .i64 2) [] else bif bif ck6 a then true else ck7 a then .ret (.int .i64 3) [] else .ret (.int .i64 0) [] := by kernel_rfl
theorem azero_t (a : At) : opn (tbl []) Tryz.f17 [a.v] [] = .ret (.bool (azero a)) [] := by kernel_rfl
def atOf : SV → Option At
 | .agg [.int .i64 ori, .psl 26 path, .int .u32 nx, .bool hm, .int .u32 med, .bool hp, .int .u32 prf, .bool ho, .int .u32 orr, .psl 27 cl, .psl 91 cm, .int .i64 tk, .int .u32 tl, .int .u32 tr, .int .u32 tg] => some ⟨ori, path, nx, hm, med, hp, prf, ho, orr, cl, cm, tk, tl, tr, tg⟩
 | _ => none
theorem atOf_v {x : SV} {a : At} (h : atOf x = some a) : x = a.v := by
 unfold atOf at h
 split at h
 · cases h; rfl
 · cases h
def oneA (r : At → SV) : CSumm := fun args H => match args, H with
 | [x], [] => match atOf x with
  | some a => .ret (r a) []
  | none => .fail
 | _, _ => .fail
theorem oneA_case {r : At → SV} {args : List SV} {H : HpL} {v : SV} {ups : List (Nat × Option Chunk)} (h : crun (oneA r args H) = some (v, ups)) : ∃ a : At, args = [a.v] ∧ H = [] ∧ v = r a ∧ ups = [] := by
 unfold oneA at h
 split at h
 · rename_i x
   split at h
   · rename_i a ha
     cases h
     exact ⟨a, by rw [atOf_v ha], rfl, rfl, rfl⟩
   · cases h
 · cases h
abbrev acheck_s : CSumm := oneA (fun a => .int .i64 (achk a))
abbrev azero_s : CSumm := oneA (fun a => .bool (azero a))
theorem acheck_k : Known Tryz.prog 78 acheck_s := (openKnown ok0 Tryz.func78 rfl).weak (by
 intro args H v ups h
 obtain ⟨a, rfl, rfl, rfl, rfl⟩ := oneA_case h
 rw [acheck_t]
 unfold achk
 cases ck1 a <;> cases ck2 a <;> cases ck3 a <;> cases ck4 a <;> cases ck5 a <;> cases ck6 a <;> cases ck7 a <;> rfl)
theorem azero_k : Known Tryz.prog 17 azero_s := (openKnown ok0 Tryz.func17 rfl).weak (by
 intro args H v ups h
 obtain ⟨a, rfl, rfl, rfl, rfl⟩ := oneA_case h
 rw [azero_t]; rfl)
noncomputable abbrev κiW := tbl [(79, check_s), (78, acheck_s), (17, azero_s)]
theorem oki : KOk Tryz.prog κiW := tbl_cons ncheck_k (tbl_cons acheck_k (tbl_cons azero_k ok0))
def fsts (l : List SV) : Int := fst l.length l 0
end Go.Proofs.YtdgnhaacdpmclaaGreat
/- Checks of attributes and routes together. -/
namespace Go.Proofs.YtdgnhaacdpmclaaGreat
open Go.Am
set_option maxRecDepth 100000
noncomputable abbrev check_b : CSumm := bodyCL Tryz.prog (openT Tryz.prog κiW 300 5) (fun g => inl κiW g && hasBody Tryz.prog g) T16 true 300 Tryz.f32 m16
def invC (l : List SV) : Bool := decide ((0 : Int) ≤ 0) && decide ((0 : Int) ≤ l.length) && decide ((l.length : Int) = l.length) && decide ((l.length : Int) ≤ 1000)
theorem invC_t {l : List SV} (h : l.length ≤ 1000) : invC l = true := by
 unfold invC; rw [decide_eq_true (by omega), decide_eq_true (by omega), decide_eq_true rfl, decide_eq_true (by omega)]; rfl
theorem check_t (a : At) (r u : List SV) : check_b [a.v, .psl 49 r, .psl 49 u] [] =
 bif achk a != 0 then .ret (.int .i64 (achk a)) [] else bif (bif (r.length : Int) == 0 then !azero a else false) then .ret (.int .i64 3) [] else
 bif invC r then bif fst (lft r.length 0) r 0 != 0 then .ret (.int .i64 (fst (lft r.length 0) r 0)) [] else
 bif invC u then bif fst (lft u.length 0) u 0 != 0 then .ret (.int .i64 (fst (lft u.length 0) u 0)) [] else .ret (.int .i64 0) [] else .fail else .fail := by kernel_rfl
def chkAll (a : At) (r u : List SV) : Int := bif achk a != 0 then achk a else bif (bif (r.length : Int) == 0 then !azero a else false) then 3 else bif fsts r != 0 then fsts r else fsts u
def checks_s : CSumm := fun args H => match args, H with
 | [x, .psl 49 r, .psl 49 u], [] => match atOf x with
  | some a => .ite (decide (r.length ≤ 1000 ∧ u.length ≤ 1000)) (.ret (.int .i64 (chkAll a r u)) []) .fail
  | none => .fail
 | _, _ => .fail
theorem checks_k : Known Tryz.prog 32 checks_s := (show Known Tryz.prog 32 check_b from ⟨⟨Tryz.f32, Tryz.func32, noNum_at noNumTry Tryz.func32, rfl⟩, bodyL_valid (openT_ok noNumTry mixTry oki 300 5) mixTry (ltab_cons check_valid ltab_nil) Tryz.func32 fill16⟩).weak (by
 intro args H v ups h
 unfold checks_s at h
 split at h
 · rename_i x r u
   split at h
   · rename_i a ha
     rw [crun_ite, cond_eq_ite] at h
     split at h
     · rename_i hc
       obtain ⟨h1, h2⟩ := of_decide_eq_true hc
       have e1 : lft (r.length : Int) 0 = r.length := by unfold lft; omega
       have e2 : lft (u.length : Int) 0 = u.length := by unfold lft; omega
       rw [atOf_v ha]
       cases h
       rw [check_t, invC_t h1, invC_t h2, e1, e2]
       unfold chkAll fsts
       cases hk : achk a != 0 with
       | true => rfl
       | false =>
       cases (bif (r.length : Int) == 0 then !azero a else false) with
       | true => rfl
       | false =>
       cases hr : fst r.length r 0 != 0 with
       | true => rfl
       | false =>
       cases hu : fst u.length u 0 != 0 with
       | true => rfl
       | false =>
        have : fst u.length u 0 = 0 := by simpa using hu
        rw [this]; rfl
     · cases h
   · cases h
 · cases h)
end Go.Proofs.YtdgnhaacdpmclaaGreat
/- Attributes' values, as the program writes them: no loops. -/
namespace Go.Proofs.YtdgnhaacdpmclaaGreat
open Go.Am
set_option maxRecDepth 100000
def dCW (a : At) (kr ku : Nat) : List SV := [.int .i64 a.ori, .psl 26 a.path, .int .u32 a.nx, .bool a.hm, .int .u32 a.med, .bool a.hp, .int .u32 a.prf, .bool a.ho, .int .u32 a.orr, .psl 27 a.cl, .psl 91 a.cm, .int .i64 a.tk, .int .u32 a.tl, .int .u32 a.tr, .int .u32 a.tg, .qs 1 1 0 kr, .qs 2 1 0 ku]
def dH (a : At) (R U : List SV) (kr ku m : Nat) (es : List SV) : HpL := [(0, .cells 97 (dCW a kr ku)), (1, .seq 5 R), (2, .seq 5 U), (3, .cells 133 [.qs 4 1 0 m, .int .i64 65535, .mp 5]), (4, .seq 5 es), (5, .mpc [] [])]
def vArgs : List SV := [.ptr 0 0, .agg [.ptr 3 0]]
noncomputable abbrev κwW := tbl [(82, wr_s 1), (83, wr_s 2), (89, wr_s 3), (88, wr_s 4), (84, bytes_s), (36, out_s)]
theorem wOk : KOk Tryz.prog κwW := tbl_cons u8_k (tbl_cons u16_k (tbl_cons u24_k (tbl_cons u32_k (tbl_cons bytes_k (tbl_cons out_k ok0)))))
def Wc (k : Nat) (n : Int) (m : Nat) (es : List SV) (K : CTree) : CTree := bif decide (m = es.length ∧ 0 ≤ n ∧ n < 256 ^ k ∧ ((es.length + k : Nat) : Int) ≤ 65535 ∧ (65535 : Int) ≤ 65536) then K else .fail
theorem Wc_ok {k : Nat} {n : Int} {m : Nat} {es : List SV} {K : CTree} (h0 : m = es.length) (h1 : 0 ≤ n) (h2 : n < 256 ^ k) (h3 : es.length + k ≤ 65535) : Wc k n m es K = K := by
 unfold Wc; rw [decide_eq_true ⟨h0, h1, h2, by omega, by omega⟩]; rfl
def rowR (w : Bool) (n : Nat) (xs : List SV) : CTree := .ret (.tup [.bool w, .int .i64 0]) [(3, some (.cells 133 [.qs 6 1 0 n, .int .i64 65535, .mp 5])), (4, none), (6, some (.seq 5 xs))]
abbrev w6 (n : Int) : Int := IntKind.u64.wrap n
theorem w6_id {n : Int} (h0 : 0 ≤ n) (h1 : n < 18446744073709551616) : w6 n = n := by
 simp [w6, IntKind.wrap, IntKind.bits, IntKind.signed]; omega
def fam : List SV := be 6470 3
def reachB (a : At) (R : List SV) : List SV := [] ++ fam ++ be 4 1 ++ be (w6 a.nx) 4 ++ be 0 1 ++ R
def unreachB (U : List SV) : List SV := [] ++ fam ++ U
def tunB (a : At) : List SV := [] ++ be 0 1 ++ be (w6 a.tk) 1 ++ be (w6 a.tl) 3 ++ be (w6 a.tr) 4
def tunG (a : At) : List SV := tunB a ++ be (w6 a.tg) 4
def tunA (a : At) : List SV := bif a.tk == 3 then tunG a else tunB a
theorem row36 (a : At) (R U : List SV) (kr ku : Nat) : opn κwW Tryz.f41 vArgs (dH a R U kr ku 0 []) = Wc 1 (w6 a.ori) 0 [] (rowR (decide ((kr : Int) > 0)) 1 (be (w6 a.ori) 1)) := by kernel_rfl
theorem row38 (a : At) (R U : List SV) (kr ku : Nat) : opn κwW Tryz.f43 vArgs (dH a R U kr ku 0 []) = Wc 4 (w6 a.med) 0 [] (rowR a.hm 4 (be (w6 a.med) 4)) := by kernel_rfl
theorem row39 (a : At) (R U : List SV) (kr ku : Nat) : opn κwW Tryz.f44 vArgs (dH a R U kr ku 0 []) = Wc 4 (w6 a.prf) 0 [] (rowR a.hp 4 (be (w6 a.prf) 4)) := by kernel_rfl
theorem row40 (a : At) (R U : List SV) (kr ku : Nat) : opn κwW Tryz.f45 vArgs (dH a R U kr ku 0 []) = Wc 4 (w6 a.orr) 0 [] (rowR a.ho 4 (be (w6 a.orr) 4)) := by kernel_rfl
theorem row42 (a : At) (R U : List SV) (kr ku : Nat) : opn κwW Tryz.f47 vArgs (dH a R U kr ku 0 []) = Wc 4 (w6 a.nx) (([] ++ fam).length + 1) ([] ++ fam ++ be 4 1)
   (bif decide (kr = R.length) then bif decide (([] ++ fam ++ be 4 1 ++ be (w6 a.nx) 4).length + 1 = ([] ++ fam ++ be 4 1 ++ be (w6 a.nx) 4 ++ be 0 1).length ∧ ((([] ++ fam ++ be 4 1 ++ be (w6 a.nx) 4 ++ be 0 1).length + R.length : Nat) : Int) ≤ 65535 ∧ (65535 : Int) ≤ 65536) then
    rowR (decide ((kr : Int) > 0)) (([] ++ fam ++ be 4 1 ++ be (w6 a.nx) 4 ++ be 0 1).length + R.length) (reachB a R) else .fail else .fail) := by kernel_rfl
theorem row43 (a : At) (R U : List SV) (kr ku : Nat) : opn κwW Tryz.f48 vArgs (dH a R U kr ku 0 []) =
   (bif decide (ku = U.length) then bif decide (([] : List SV).length + 3 = ([] ++ fam).length ∧ ((([] ++ fam).length + U.length : Nat) : Int) ≤ 65535 ∧ (65535 : Int) ≤ 65536) then
    rowR (bif decide ((ku : Int) > 0) then true else (kr : Int) == 0) (([] ++ fam).length + U.length) (unreachB U) else .fail else .fail) := by kernel_rfl
theorem row45 (a : At) (R U : List SV) (kr ku : Nat) : opn κwW Tryz.f50 vArgs (dH a R U kr ku 0 []) = Wc 1 (w6 a.tk) (([] : List SV).length + 1) ([] ++ be 0 1) (Wc 3 (w6 a.tl) (([] ++ be 0 1).length + 1) ([] ++ be 0 1 ++ be (w6 a.tk) 1) (Wc 4 (w6 a.tr) (([] ++ be 0 1 ++ be (w6 a.tk) 1).length + 3) ([] ++ be 0 1 ++ be (w6 a.tk) 1 ++ be (w6 a.tl) 3)
   (bif a.tk == 3 then Wc 4 (w6 a.tg) (([] ++ be 0 1 ++ be (w6 a.tk) 1 ++ be (w6 a.tl) 3).length + 4) (tunB a) (rowR (a.tk != 0) 13 (tunG a)) else rowR (a.tk != 0) 9 (tunB a)))) := by kernel_rfl
end Go.Proofs.YtdgnhaacdpmclaaGreat
