/- FsmPair: the letters that arrive, known. -/
import Derived.Test.YtbeolnccdhjjeaaPart3
set_option linter.unusedVariables false
set_option linter.unusedSimpArgs false
namespace Go.Proofs.Ytbeolnccdhjjeaa
open Go.Am
set_option maxRecDepth 100000
theorem ar_exit {a b : Ed} : ChainL Try.prog (H4 a b) (.tup [.int .i64 2]) [] (.tup [.int .i64 2]) [(3, none), (2, some (.cells 64 (edC b 4))), (0, some (.cells 64 (edC a 5))), (1, none), (4, some (.sqo 106 b.q)), (5, some (.sqo 106 a.q))] := by
 refine .trans (v1 := .tup [.int .i64 2]) (ups1 := [(2, some (.cells 64 (edC b 4))), (3, none), (4, some (.sqo 106 b.q))]) (.ren ⟨3, 4, by simp [H4], by simp [namesS, namesL], fun x c hx => ?_, rfl, fun x => ?_⟩) (.ren ⟨1, 5, by simp [H4], by simp [namesS, namesL], fun x c hx => ?_, rfl, fun x => ?_⟩)
 · simp only [updF, H4] at hx
   have := HpL_get_some _ _ _ hx
   simp only [List.mem_cons, Prod.mk.injEq, List.not_mem_nil, or_false] at this
   rcases this with ⟨_, rfl⟩ | ⟨_, rfl⟩ | ⟨_, rfl⟩ | ⟨_, rfl⟩ <;> simp [namesC, namesL, namesS, edN]
 · match x with
   | 0 => rfl | 1 => rfl | 2 => rfl | 3 => rfl | 4 => rfl
   | x + 5 => simp only [updF, H4, HpL.get, show ¬ (x + 5 = 4) by omega, show ¬ (x + 5 = 3) by omega, show ¬ (x + 5 = 2) by omega, if_false, show Nat.beq 0 (x + 5) = false from nb_f (by omega), show Nat.beq 1 (x + 5) = false from nb_f (by omega), show Nat.beq 2 (x + 5) = false from nb_f (by omega), show Nat.beq 3 (x + 5) = false from nb_f (by omega), cond_false, Option.map_none]
 · match x, hx with
   | 0, hx => cases hx; simp [namesC, namesL, namesS, edN]
   | 1, hx => cases hx; simp [namesC]
   | 2, hx => cases hx; simp [namesC, namesL, namesS, edN]
   | 3, hx => cases hx
   | 4, hx => cases hx; simp [namesC]
   | x + 5, hx => simp only [updF, H4, HpL.get, show ¬ (x + 5 = 4) by omega, show ¬ (x + 5 = 3) by omega, show ¬ (x + 5 = 2) by omega, if_false, show Nat.beq 0 (x + 5) = false from nb_f (by omega), show Nat.beq 1 (x + 5) = false from nb_f (by omega), show Nat.beq 2 (x + 5) = false from nb_f (by omega), show Nat.beq 3 (x + 5) = false from nb_f (by omega), cond_false] at hx; cases hx
 · match x with
   | 0 => rfl | 1 => rfl | 2 => rfl | 3 => rfl | 4 => rfl | 5 => rfl
   | x + 6 => simp only [updF, H4, HpL.get, show ¬ (x + 6 = 5) by omega, show ¬ (x + 6 = 4) by omega, show ¬ (x + 6 = 3) by omega, show ¬ (x + 6 = 2) by omega, show ¬ (x + 6 = 1) by omega, show ¬ (x + 6 = 0) by omega, if_false, show Nat.beq 0 (x + 6) = false from nb_f (by omega), show Nat.beq 1 (x + 6) = false from nb_f (by omega), show Nat.beq 2 (x + 6) = false from nb_f (by omega), show Nat.beq 3 (x + 6) = false from nb_f (by omega), cond_false, Option.map_none]
theorem pf_q (t : Int) : ∀ (xs : List SV) (a b : Ed), (pf t xs a b).1.q = a.q ∧ (pf t xs a b).1.s = a.s ∧ (pf t xs a b).2.s = b.s
 | [], a, b => ⟨rfl, rfl, rfl⟩
 | x :: xs, a, b => by
  unfold pf
  cases kOf x == 1 with
  | true => exact pf_q t xs _ _
  | false =>
   cases kOf x == 2 with
   | true => exact pf_q t xs { a with ak := true } b
   | false =>
    cases kOf x == 5 with
    | true => exact pf_q t xs { a with dn := true } b
    | false => exact pf_q t xs a b
theorem pf_len (t : Int) : ∀ (xs : List SV) (a b : Ed), (pf t xs a b).2.q.length = b.q.length + (xs.filter (fun x => kOf x == 1)).length
 | [], a, b => rfl
 | x :: xs, a, b => by
  unfold pf
  cases h : kOf x == 1 with
  | true => rw [cond_true, pf_len t xs]; simp [h]; omega
  | false =>
   rw [cond_false]
   have e : ((x :: xs).filter (fun x => kOf x == 1)).length = (xs.filter (fun x => kOf x == 1)).length := by simp [h]
   rw [e]
   cases kOf x == 2 with
   | true => exact pf_len t xs _ _
   | false =>
    cases kOf x == 5 with
    | true => exact pf_len t xs _ _
    | false => exact pf_len t xs _ _
theorem map_filter (l : List Act) : ((l.map Act.v).filter (fun x => kOf x == 1)).length = (l.filter (fun a => a.kind == 1)).length := by
 induction l with
 | nil => rfl
 | cons a l ih =>
  have e : (kOf a.v == 1) = (a.kind == 1) := rfl
  simp only [List.map_cons, List.filter_cons, e]
  cases a.kind == 1 <;> simp [ih]
theorem stP_q (k : Int) (m : Msg) (now dl : Int) (a b : Ed) : (stP k m now dl a b).1.q = a.q ∧ (stP k m now dl a b).2.q.length ≤ b.q.length + 1 := by
 unfold stP
 refine ⟨(pf_q _ _ _ _).1, ?_⟩
 rw [pf_len]
 have := one_step a.s k m now
 unfold One at this
 unfold stA
 rw [map_filter]
 omega
theorem ed_eta (e : Ed) {q : List SV} (h : e.q = q) : ({ e with q := q } : Ed) = e := by subst h; rfl
theorem ar_valid : ValidL Try.prog e22 := loop_valid5 (T := ltab []) (sp := true) (fuel := 300) (c := c22) (μ := arM) mixTry ltab_nil (show fillC (ltab []) c22 = c22 by kernel_rfl) (by
 intro N args H v' ups' hbt hr
 unfold e22 ar_s at hr
 simp only [] at hr
 split at hr
 · rename_i now dl ca qa cb qb
   rw [crun_ite] at hr
   cases hc : dec (arOk ca qa cb qb) with
   | false => rw [hc] at hr; cases hr
   | true =>
    rw [hc, cond_true] at hr
    obtain ⟨ea, eb, la, lb, hl⟩ := dec_iff.1 hc
    generalize hA : edR ca qa = a at ea hr
    generalize hB : edR cb qb = b at eb hr
    have hqa : a.q = qa := by rw [← hA]; rfl
    have hqb : b.q = qb := by rw [← hB]; rfl
    subst hqa; subst hqb; subst ea; subst eb
    have hN : Nat.blt a.q.length (N + 1) = true := hbt
    rw [Nat.blt_eq] at hN
    refine ⟨κrr, fun _ => false, rrOk, ?_⟩
    have ht := ar_t N a b now dl
    unfold H4 at ht
    cases hq : a.q with
    | nil =>
     rw [hq] at hr ht
     rw [show decide ((([] : List SV).length : Int) > 0) = false by decide, cond_false] at ht
     unfold arE at ht
     refine ⟨_, _, congrArg crun ht, ?_⟩
     simp only [ar, arT, crun] at hr
     cases hr
     have := ar_exit (a := a) (b := b)
     unfold H4 at this
     rw [hq] at this
     have e : ({ a with q := [] } : Ed) = a := ed_eta a hq
     rw [e]
     exact this
    | cons x l =>
     rw [hq] at hr ht hN la lb hl
     have hlen : (x :: l).length = l.length + 1 := rfl
     have e0 : (x :: l).getD 0 .junk = x := rfl
     rw [decide_eq_true (show (((x :: l).length : Nat) : Int) > 0 by rw [hlen]; omega), cond_true, inB_ok (by omega) (by rw [hlen]; omega), cond_true, decide_eq_true (show 0 < (x :: l).length by simp), cond_true, cond_true, cond_true, e0] at ht
     rw [ar] at hr
     by_cases hx : ltT x ≤ now
     · rw [decide_eq_true hx, cond_true] at hr ht
       rw [decide_eq_true (show 1 ≤ (((x :: l).length : Nat) : Int) by simp; omega), decide_eq_true rfl, Bool.and_self, cond_true] at ht
       unfold arS at ht
       rw [hq] at ht
       have ed : (x :: l).drop 1 = l := rfl
       rw [ed, e0] at ht
       have hsp := stP_q 5 (ltM x) now dl { a with q := l } b
       generalize hp : stP 5 (ltM x) now dl { a with q := l } b = p at ht hr hsp
       have hlx := hl x (by simp)
       rw [dec_iff.2 ⟨rfl, rfl, rfl, hlx, by simp at la; omega, by omega⟩, cond_true] at ht
       unfold arN at ht
       have h1 : p.1.q = l := hsp.1
       have h2 := hsp.2
       rw [show Nat.blt l.length N = true by rw [Nat.blt_eq]; simp at hN; omega, cond_true, dec_iff.2 ⟨by show edN p.1 1 _ = edN p.1 1 _; rw [h1]; rfl, rfl, by simp at la; omega, by simp at lb; omega, fun y hy => hl y (by simp [hy])⟩, cond_true, ed_eta p.1 h1] at ht
       exact ⟨v', ups', (congrArg crun ht).trans hr, .same fun _ => rfl⟩
     · rw [decide_eq_false hx, cond_false] at hr ht
       unfold arE at ht
       refine ⟨_, _, congrArg crun ht, ?_⟩
       simp only [arT, crun] at hr
       cases hr
       have := ar_exit (a := a) (b := b)
       unfold H4 at this
       rw [hq] at this
       have e : ({ a with q := x :: l } : Ed) = a := ed_eta a hq
       rw [e]
       exact this
 · cases hr)
noncomputable abbrev T22 : LTab := ltab [("r", e22)]
noncomputable abbrev m22 : Code := markC [(0, "r")] body22
noncomputable def arr_b : CSumm := bodyCL Try.prog (openT Try.prog (tbl []) 300 5) (fun _ => false) T22 true 300 Try.f22 m22
theorem arr_k0 : Known Try.prog 22 arr_b := ⟨⟨Try.f22, Try.func22, noNum_at noNumTry Try.func22, rfl⟩, bodyL_valid (openT_ok noNumTry mixTry ok0 300 5) mixTry (ltab_cons ar_valid ltab_nil) Try.func22 (show Try.f22.body = some (fillC T22 m22) by kernel_rfl)⟩
end Go.Proofs.Ytbeolnccdhjjeaa
/- FsmPair: what arrives, known; the law's loop. -/
namespace Go.Proofs.Ytbeolnccdhjjeaa
open Go.Am
set_option maxRecDepth 100000
def arF (p : Ed × Ed) : CTree := .ret (.tup []) [(1, none), (0, some (.cells 64 (edC p.1 4))), (2, some (.cells 64 (edC p.2 5))), (3, none), (4, some (.sqo 106 p.1.q)), (5, some (.sqo 106 p.2.q))]
theorem arr_t (a b : Ed) (now dl : Int) : arr_b [.ptr 0 0, .ptr 2 0, .int .i64 now, .int .i64 dl] (H4 a b) =
 bif dec (arOk (edC a 1) a.q (edC b 3) b.q) then arF (ar now dl a.q a b) else .fail := by kernel_rfl
noncomputable def arr_s : CSumm := fun args H => match args, H with
 | [.ptr 0 0, .ptr 2 0, .int .i64 now, .int .i64 dl], [(0, .cells 64 ca), (1, .sqo 106 qa), (2, .cells 64 cb), (3, .sqo 106 qb)] =>
  .ite (dec (arOk ca qa cb qb)) (arF (ar now dl qa (edR ca qa) (edR cb qb))) .fail
 | _, _ => .fail
theorem arr_k : Known Try.prog 22 arr_s := arr_k0.weak (by
 intro args H v ups h
 unfold arr_s at h
 split at h
 · rename_i now dl ca qa cb qb
   rw [crun_ite] at h
   cases hc : dec (arOk ca qa cb qb) with
   | false => rw [hc] at h; cases h
   | true =>
    rw [hc, cond_true] at h
    have hok := dec_iff.1 hc
    obtain ⟨ea, eb, hr⟩ := hok
    generalize hA : edR ca qa = a at ea h
    generalize hB : edR cb qb = b at eb h
    have hqa : a.q = qa := by rw [← hA]; rfl
    have hqb : b.q = qb := by rw [← hB]; rfl
    subst hqa; subst hqb; subst ea; subst eb
    refine (congrArg crun (arr_t a b now dl)).trans ?_
    rw [dec_iff.2 ⟨rfl, rfl, hr⟩, cond_true]
    exact h
 · cases h)
end Go.Proofs.Ytbeolnccdhjjeaa
/- FsmPair: the law's loop: a round. -/
namespace Go.Proofs.Ytbeolnccdhjjeaa
open Go.Am
set_option maxRecDepth 100000
noncomputable abbrev κ5 := tbl [(21, coS evCo5 st_s), (22, arr_s)]
theorem ok5 : KOk Try.prog κ5 := tbl_cons stC_k (tbl_cons arr_k ok0)
noncomputable def body5 : Code := Try.f5.body.getD .skip
noncomputable def c5L : Code := (loopAt 18 body5).getD .skip
noncomputable def p1 (now dl : Int) (a b : Ed) : Ed × Ed := ar now dl a.q a b
noncomputable def p2 (now dl : Int) (a b : Ed) : Ed × Ed := ar now dl (p1 now dl a b).2.q (p1 now dl a b).2 (p1 now dl a b).1
noncomputable def p3 (now dl : Int) (a b : Ed) : Ed × Ed := stP 7 msg0 now dl (p2 now dl a b).2 (p2 now dl a b).1
noncomputable def p4 (now dl : Int) (a b : Ed) : Ed × Ed := stP 7 msg0 now dl (p3 now dl a b).2 { (p3 now dl a b).1 with q := (p2 now dl a b).2.q }
def askB (least dl now : Int) : Bool := bif decide (least ≥ w64 (w64 (2 * dl) + 6)) then decide (now ≥ w64 (w64 (2 * dl) + 1)) else false
def worse (least : Int) (a b : Ed) : Bool := bif (bif (bif (bif (bif a.s.ph != 4 then true else b.s.ph != 4) then true else a.s.hold != least) then true else b.s.hold != least) then true else a.dn) then true else b.dn
noncomputable def goodB (least dl : Int) : Nat → Int → Ed → Ed → Bool
 | 0, _, _, _ => true
 | n + 1, now, a, b => (!(askB least dl now && worse least (p4 now dl a b).2 (p4 now dl a b).1)) && goodB least dl n (now + 1) (p4 now dl a b).2 (p4 now dl a b).1
def cap (now : Int) : Int := 10 + 2 * now
def liOk (q : List SV) : Prop := ∀ x ∈ q, lightB (ltM x) = true
def loOk (ca qa cb qb : List SV) (least dl tk now : Int) : Prop := ca = edC (edR ca qa) 1 ∧ cb = edC (edR cb qb) 3 ∧ (qa.length : Int) + qb.length ≤ cap now ∧ liOk qa ∧ liOk qb ∧ 0 ≤ now ∧ now ≤ tk + 1 ∧ tk ≤ 1000 ∧ 0 ≤ dl ∧ dl ≤ 100 ∧
 goodB least dl (tk + 1 - now).toNat now (edR ca qa) (edR cb qb) = true
def loX : CTree := .ret (.tup [.int .i64 2, .junk]) [(0, none), (1, none), (2, none), (3, none)]
def loX' : CTree := .ret (.tup [.int .i64 2, .junk]) [(3, none), (2, none), (0, none), (1, none)]
noncomputable def lo_s : CSumm := fun args H => match args, H with
 | [.ptr 0 0, .ptr 2 0, .int .i64 least, .int .i64 dl, .int .i64 tk, .int .i64 now], [(0, .cells 64 ca), (1, .sqo 106 qa), (2, .cells 64 cb), (3, .sqo 106 qb)] =>
  .ite (dec (loOk ca qa cb qb least dl tk now)) loX .fail
 | _, _ => .fail
def loM : List SV → HpL → Nat
 | [_, _, _, _, .int _ tk, .int _ now], _ => (tk + 1 - now).toNat
 | _, _ => 0
noncomputable def e5L : LEnt := { ins := [19, 20, 21, 3, 4, 22], outs := [14], keep := [], size := 194, code := c5L, s := lo_s }
noncomputable def ev7 : List SV := .int .i64 7 :: msg0.cs
noncomputable def loN (N : Nat) (a b : Ed) (qb : List SV) (least dl tk now : Int) : CTree := bif Nat.blt (tk + 1 - now).toNat N then bif dec (loOk (edC a 1) a.q (edC b 3) qb least dl tk now) then loX' else .fail else .fail
noncomputable def loB (z u : Ed × Ed) (N : Nat) (least dl tk now : Int) : CTree :=
 bif (bif askB least dl now then worse least u.2 u.1 else false) then .ret (.tup [.int .i64 1, .bool false]) [(3, none), (2, some (.cells 64 (edC u.1 4))), (0, some (.cells 64 (edC u.2 5))), (1, none), (4, some (.sqo 106 z.2.q)), (5, some (.sqo 106 u.2.q))] else loN N u.2 u.1 z.2.q least dl tk (w64 (now + 1))
theorem lo_t (N : Nat) (a b : Ed) (least dl tk now : Int) : loopOnce Try.prog κ5 (fun _ => false) (ltab []) true 300 e5L { e5L with s := boundT loM lo_s N } c5L [.ptr 0 0, .ptr 2 0, .int .i64 least, .int .i64 dl, .int .i64 tk, .int .i64 now] (H4 a b) =
 bif decide (now ≤ tk) then
  bif dec (arOk (edC a 1) a.q (edC b 3) b.q) then
   bif dec (arOk (edC (p1 now dl a b).2 1) (p1 now dl a b).2.q (edC (p1 now dl a b).1 3) (p1 now dl a b).1.q) then
    bif dec (stOk (edC (p2 now dl a b).2 1) (p2 now dl a b).2.q (edC (p2 now dl a b).1 3) (p2 now dl a b).1.q ev7) then
     bif dec (stOk (edC (p3 now dl a b).2 1) (p3 now dl a b).2.q (edC (p3 now dl a b).1 3) (p2 now dl a b).2.q ev7) then
      loB (p3 now dl a b) (p4 now dl a b) N least dl tk now
     else .fail else .fail else .fail else .fail
 else .ret (.tup [.int .i64 2, .junk]) [] := by kernel_rfl
end Go.Proofs.Ytbeolnccdhjjeaa
/- FsmPair: the law's loop, known. -/
namespace Go.Proofs.Ytbeolnccdhjjeaa
open Go.Am
set_option maxRecDepth 100000
theorem light_nil {m : Msg} (h : m.path = [] ∧ m.cl = [] ∧ m.cm = [] ∧ m.reach = [] ∧ m.un = []) : lightB m = true := by
 obtain ⟨h1, h2, h3, h4, h5⟩ := h
 unfold lightB
 rw [h1, h2, h3, h4, h5]
 decide
theorem light0 : lightB msg0 = true := by decide
theorem liOk_nil : liOk [] := fun x hx => by cases hx
theorem liOk_app {q : List SV} {m : Msg} {t : Int} (h : liOk q) (hm : lightB m = true) : liOk (q ++ [ltV m t]) := by
 intro x hx
 rcases List.mem_append.1 hx with hx | hx
 · exact h x hx
 · simp only [List.mem_singleton] at hx
   subst hx
   rw [ltM_V]; exact hm
theorem pf_li (t : Int) : ∀ (xs : List SV) (a b : Ed), (∀ x ∈ xs, lightB (msgAt x) = true) → liOk b.q → liOk (pf t xs a b).2.q
 | [], a, b, _, h => h
 | x :: xs, a, b, hx, h => by
  have hx' : ∀ y ∈ xs, lightB (msgAt y) = true := fun y hy => hx y (by simp [hy])
  unfold pf
  cases kOf x == 1 with
  | true => exact pf_li t xs _ _ hx' (liOk_app h (hx x (by simp)))
  | false =>
   cases kOf x == 2 with
   | true => exact pf_li t xs _ _ hx' h
   | false =>
    cases kOf x == 5 with
    | true => exact pf_li t xs _ _ hx' h
    | false => exact pf_li t xs _ _ hx' h
theorem stP_li {k : Int} {m : Msg} {now dl : Int} {a b : Ed} (hm : lightB m = true) (h : liOk b.q) : liOk (stP k m now dl a b).2.q := by
 unfold stP
 refine pf_li _ _ _ _ (fun x hx => ?_) h
 unfold stA at hx
 obtain ⟨c, hc, rfl⟩ := List.mem_map.1 hx
 rw [msgAt_v]
 rcases (small_step a.s k m now).2 c hc with h1 | h1
 · rw [h1]; exact hm
 · exact light_nil h1
theorem ar_li (now dl : Int) : ∀ (q : List SV) (a b : Ed), liOk q → liOk b.q → liOk (ar now dl q a b).1.q ∧ liOk (ar now dl q a b).2.q ∧ (ar now dl q a b).1.q.length + (ar now dl q a b).2.q.length ≤ q.length + b.q.length
 | [], a, b, _, hb => ⟨liOk_nil, hb, by simp [ar]⟩
 | x :: l, a, b, hq, hb => by
  unfold ar
  cases decide (ltT x ≤ now) with
  | false => exact ⟨hq, hb, by simp⟩
  | true =>
   have hl : liOk l := fun y hy => hq y (by simp [hy])
   have h1 := stP_q 5 (ltM x) now dl { a with q := l } b
   have h2 := stP_li (k := 5) (now := now) (dl := dl) (a := { a with q := l }) (hq x (by simp)) hb
   obtain ⟨g1, g2, g3⟩ := ar_li now dl l (stP 5 (ltM x) now dl { a with q := l } b).1 (stP 5 (ltM x) now dl { a with q := l } b).2 hl h2
   refine ⟨g1, g2, ?_⟩
   have := h1.2
   simp only [cond_true, List.length_cons]
   omega
theorem lo_told {H : HpL} {a b : Ed} (hH : H = H4 a b) {v : SV} {ups : List (Nat × Option Chunk)} (hu : ups = [] ∨ ups = [(3, none), (2, none), (0, none), (1, none)]) : ChainL Try.prog H (.tup [.int .i64 2, v]) ups (.tup [.int .i64 2, v]) [(0, none), (1, none), (2, none), (3, none)] := by
 subst hH
 refine .told ⟨2, [v], [v], rfl, rfl, .cons .rfl' .nil, fun x c' hx => ?_⟩
 match x with
 | 0 => cases hx | 1 => cases hx | 2 => cases hx | 3 => cases hx
 | x + 4 => simp only [updF, H4, HpL.get, show ¬ (x + 4 = 3) by omega, show ¬ (x + 4 = 2) by omega, show ¬ (x + 4 = 1) by omega, show ¬ (x + 4 = 0) by omega, if_false, show Nat.beq 0 (x + 4) = false from nb_f (by omega), show Nat.beq 1 (x + 4) = false from nb_f (by omega), show Nat.beq 2 (x + 4) = false from nb_f (by omega), show Nat.beq 3 (x + 4) = false from nb_f (by omega), cond_false] at hx; cases hx
theorem arOk_i {a b : Ed} (h1 : a.q.length ≤ 10000) (h2 : b.q.length + a.q.length ≤ 20000) (h3 : liOk a.q) : dec (arOk (edC a 1) a.q (edC b 3) b.q) = true := dec_iff.2 ⟨rfl, rfl, h1, h2, h3⟩
theorem stOk_7 {a b : Ed} {qb : List SV} (hb : b.q = qb) (h1 : a.q.length ≤ 100000) (h2 : qb.length ≤ 100000) : dec (stOk (edC a 1) a.q (edC b 3) qb ev7) = true := by
 subst hb
 exact dec_iff.2 ⟨rfl, rfl, rfl, light0, h1, h2⟩
theorem loOk_i {a b : Ed} {qb : List SV} {least dl tk now : Int} (hb : b.q = qb) (h1 : (a.q.length : Int) + qb.length ≤ cap now) (h2 : liOk a.q) (h3 : liOk qb) (n0 : 0 ≤ now) (n1 : now ≤ tk + 1) (n2 : tk ≤ 1000) (d0 : 0 ≤ dl) (d1 : dl ≤ 100) (hg : goodB least dl (tk + 1 - now).toNat now a b = true) : dec (loOk (edC a 1) a.q (edC b 3) qb least dl tk now) = true := by
 subst hb
 exact dec_iff.2 ⟨rfl, rfl, h1, h2, h3, n0, n1, n2, d0, d1, hg⟩
structure Tk (now dl : Int) (a b : Ed) (P1 P2 P3 P4 : Ed × Ed) : Prop where
 a1 : liOk P1.1.q
 a2 : liOk P1.2.q
 a3 : P1.1.q.length + P1.2.q.length ≤ a.q.length + b.q.length
 b1 : liOk P2.1.q
 b2 : liOk P2.2.q
 b3 : P2.1.q.length + P2.2.q.length ≤ P1.2.q.length + P1.1.q.length
 c0 : P3.1.q = P2.2.q
 c1 : P3.2.q.length ≤ P2.1.q.length + 1
 c2 : liOk P3.2.q
 f1 : P4.1.q = P3.2.q
 f2 : P4.2.q.length ≤ P2.2.q.length + 1
 f3 : liOk P4.2.q
theorem tk_f (now dl : Int) (a b : Ed) (la : liOk a.q) (lb : liOk b.q) : Tk now dl a b (p1 now dl a b) (p2 now dl a b) (p3 now dl a b) (p4 now dl a b) := by
 obtain ⟨a1, a2, a3⟩ := ar_li now dl a.q a b la lb
 have e1 : ar now dl a.q a b = p1 now dl a b := rfl
 rw [e1] at a1 a2 a3
 obtain ⟨b1, b2, b3⟩ := ar_li now dl (p1 now dl a b).2.q (p1 now dl a b).2 (p1 now dl a b).1 a2 a1
 have e2 : ar now dl (p1 now dl a b).2.q (p1 now dl a b).2 (p1 now dl a b).1 = p2 now dl a b := rfl
 rw [e2] at b1 b2 b3
 have c1 := stP_q 7 msg0 now dl (p2 now dl a b).2 (p2 now dl a b).1
 have c2 := stP_li (k := 7) (now := now) (dl := dl) (a := (p2 now dl a b).2) light0 b1
 have e3 : stP 7 msg0 now dl (p2 now dl a b).2 (p2 now dl a b).1 = p3 now dl a b := rfl
 rw [e3] at c1 c2
 have g1 := stP_q 7 msg0 now dl (p3 now dl a b).2 { (p3 now dl a b).1 with q := (p2 now dl a b).2.q }
 have g2 := stP_li (k := 7) (now := now) (dl := dl) (a := (p3 now dl a b).2) (b := { (p3 now dl a b).1 with q := (p2 now dl a b).2.q }) light0 b2
 have e4 : stP 7 msg0 now dl (p3 now dl a b).2 { (p3 now dl a b).1 with q := (p2 now dl a b).2.q } = p4 now dl a b := rfl
 rw [e4] at g1 g2
 exact ⟨a1, a2, a3, b1, b2, b3, c1.1, c1.2, c2, g1.1, g1.2, g2⟩
theorem lo_go {N : Nat} {a b : Ed} {least dl tk now : Int} {P1 P2 P3 P4 : Ed × Ed} (h : Tk now dl a b P1 P2 P3 P4) (la : liOk a.q) (lc : (a.q.length : Int) + b.q.length ≤ cap now) (n0 : 0 ≤ now) (n1 : now ≤ tk) (n2 : tk ≤ 1000) (d0 : 0 ≤ dl) (d1 : dl ≤ 100)
  (hN : (tk + 1 - now).toNat < N + 1) (hb1 : (!(askB least dl now && worse least P4.2 P4.1)) = true) (hb2 : goodB least dl (tk + 1 - (now + 1)).toNat (now + 1) P4.2 P4.1 = true) :
  (bif dec (arOk (edC a 1) a.q (edC b 3) b.q) then
   bif dec (arOk (edC P1.2 1) P1.2.q (edC P1.1 3) P1.1.q) then
    bif dec (stOk (edC P2.2 1) P2.2.q (edC P2.1 3) P2.1.q ev7) then
     bif dec (stOk (edC P3.2 1) P3.2.q (edC P3.1 3) P2.2.q ev7) then
      loB P3 P4 N least dl tk now
     else CTree.fail else .fail else .fail else .fail) = loX' := by
 have a3 := h.a3; have b3 := h.b3; have c1 := h.c1; have f2 := h.f2
 unfold cap at lc
 rw [arOk_i (by omega) (by omega) la, cond_true, arOk_i (by omega) (by omega) h.a2, cond_true, stOk_7 rfl (by omega) (by omega), cond_true, stOk_7 h.c0 (by omega) (by omega), cond_true]
 unfold loB
 have hbad : (bif askB least dl now then worse least P4.2 P4.1 else false) = false := by
  cases h1 : askB least dl now with
  | false => rfl
  | true => rw [h1, Bool.true_and] at hb1; rw [cond_true]; simpa using hb1
 rw [hbad, cond_false, show w64 (now + 1) = now + 1 from w64_id (by omega) (by omega)]
 unfold loN
 have k : Nat.blt (tk + 1 - (now + 1)).toNat N = true := by rw [Nat.blt_eq]; omega
 rw [k, cond_true, loOk_i h.f1 (by unfold cap; omega) h.f3 h.c2 (by omega) (by omega) n2 d0 d1 hb2, cond_true]
theorem lo_valid : ValidL Try.prog e5L := loop_valid5 (T := ltab []) (sp := true) (fuel := 300) (c := c5L) (μ := loM) mixTry ltab_nil (show fillC (ltab []) c5L = c5L by kernel_rfl) (by
 intro N args H v' ups' hbt hr
 unfold e5L lo_s at hr
 simp only [] at hr
 split at hr
 · rename_i least dl tk now ca qa cb qb
   rw [crun_ite] at hr
   cases hc : dec (loOk ca qa cb qb least dl tk now) with
   | false => rw [hc] at hr; cases hr
   | true =>
    rw [hc, cond_true] at hr
    obtain ⟨ea, eb, lc, la, lb, n0, n1, n2, d0, d1, hg⟩ := dec_iff.1 hc
    generalize hA : edR ca qa = a at ea hg
    generalize hB : edR cb qb = b at eb hg
    have hqa : a.q = qa := by rw [← hA]; rfl
    have hqb : b.q = qb := by rw [← hB]; rfl
    subst hqa; subst hqb; subst ea; subst eb
    have hN : Nat.blt (tk + 1 - now).toNat (N + 1) = true := hbt
    rw [Nat.blt_eq] at hN
    refine ⟨κ5, fun _ => false, ok5, ?_⟩
    have ht := lo_t N a b least dl tk now
    cases hr
    by_cases hi : now ≤ tk
    · rw [decide_eq_true hi, cond_true] at ht
      have hfu : (tk + 1 - now).toNat = (tk + 1 - (now + 1)).toNat + 1 := by omega
      rw [hfu, goodB, Bool.and_eq_true] at hg
      rw [lo_go (tk_f now dl a b la lb) la lc n0 hi n2 d0 d1 hN hg.1 hg.2] at ht
      exact ⟨_, _, congrArg crun ht, lo_told (a := a) (b := b) rfl (.inr rfl)⟩
    · rw [decide_eq_false hi, cond_false] at ht
      exact ⟨_, _, congrArg crun ht, lo_told (a := a) (b := b) rfl (.inl rfl)⟩
 · cases hr)
end Go.Proofs.Ytbeolnccdhjjeaa
/- FsmPair: the law's tree. -/
namespace Go.Proofs.Ytbeolnccdhjjeaa
open Go.Am
set_option maxRecDepth 100000
def newO_s : CSumm
 | [.agg [.int .u32 a, .int .u32 b, .int .u32 c, .int .i64 d, .int .i64 e, .int .i64 f, .bool g, .bool h]], [] =>
  .ite (cfgOk b c d e f) (.ret (.tup [Ses.v ⟨0, a, b, c, d, e, f, g, h, 0, 0, 0, 0, false, 0, -1, -1, -1⟩, .int .i64 0]) []) .fail
 | _, _ => .fail
theorem newO_k : Known Try.prog 11 newO_s := new_k.weak (by
 intro args H v ups h
 unfold newO_s at h
 split at h
 · rename_i a b c d e f g h'
   rw [crun_ite] at h
   cases hc : cfgOk b c d e f with
   | false => rw [hc] at h; cases h
   | true =>
    rw [hc, cond_true] at h
    rw [← h]
    show crun (.ret (.tup [(newS a b c d e f g h').v, .int .i64 (bif cfgOk b c d e f then 0 else 2)]) []) = _
    unfold newS
    rw [hc]
    rfl
 · cases h)
noncomputable abbrev κp := tbl [(9, lives_s), (11, newO_s), (15, stepC step_i), (20, pick_s)]
theorem pOk : KOk Try.prog κp := tbl_cons lives_k (tbl_cons newO_k (tbl_cons stepI_k (tbl_cons pick_k ok0)))
noncomputable abbrev T5 : LTab := ltab [("o", e5L)]
noncomputable def m5 : Code := markC [(18, "o")] body5
noncomputable def pair_b : CSumm := bodyCL Try.prog (openT Try.prog κp 300 5) (fun g => inl κp g && hasBody Try.prog g) T5 true 300 Try.f5 m5
theorem pair_k : Known Try.prog 5 pair_b := ⟨⟨Try.f5, Try.func5, noNum_at noNumTry Try.func5, rfl⟩, bodyL_valid (openT_ok noNumTry mixTry pOk 300 5) mixTry (ltab_cons lo_valid ltab_nil) Try.func5 (show Try.f5.body = some (fillC T5 m5) by kernel_rfl)⟩
abbrev sQ (ph id pe ho re : Int) (pas : Bool) (ex ret : Int) : Ses := ⟨ph, 7, id, pe, ho, re, 0, pas, false, 0, 0, 0, 0, false, 0, ex, -1, ret⟩
abbrev opnM (ho id : Int) : Msg := { msg0 with kind := 1, mas := 7, mh := ho, mid := id, mrs := 0, mrd := false }
abbrev eQ (id pe ho po re : Int) (pas : Bool) (dl : Int) : Ed := ⟨sQ 2 id pe ho re pas (w64 (0 + 30)) (-1), [ltV (opnM po pe) (w64 (0 + dl))], !pas, false⟩
abbrev rT (pas : Bool) (re : Int) : Int := bif pas then -1 else w64 (0 + re)
noncomputable def pairT (H O R D T : Int) (pa pb : Bool) : CTree :=
 bif cfgOk 1 2 H R 0 then bif cfgOk 2 1 O R 0 then
  bif goesB (sQ 0 1 2 H R pa (-1) (-1)) 1 0 then bif goesB (sQ 0 2 1 O R pb (-1) (-1)) 1 0 then
   bif goesB (sQ 1 1 2 H R pa (-1) (rT pa R)) 3 0 then bif goesB (sQ 1 2 1 O R pb (-1) (rT pb R)) 3 0 then
    bif dec (loOk (edC (eQ 1 2 H O R pa D) 1) (eQ 1 2 H O R pa D).q (edC (eQ 2 1 O H R pb D) 3) (eQ 2 1 O H R pb D).q (minI H O) D T 0) then .ret (.bool true) [] else .fail
   else .fail else .fail else .fail else .fail else .fail else .fail
theorem pair_t1 (h o r d t : Int) : pair_b [.int .i64 h, .int .i64 o, .int .i64 r, .int .i64 d, .int .i64 t, .bool true, .bool true] [] = pairT (w64 (3 + pickI h 200)) (w64 (3 + pickI o 200)) (w64 (1 + pickI r 60)) (pickI d 9) (w64 (40 + pickI t 361)) true false := by kernel_rfl
theorem pair_t2 (h o r d t : Int) : pair_b [.int .i64 h, .int .i64 o, .int .i64 r, .int .i64 d, .int .i64 t, .bool true, .bool false] [] = pairT (w64 (3 + pickI h 200)) (w64 (3 + pickI o 200)) (w64 (1 + pickI r 60)) (pickI d 9) (w64 (40 + pickI t 361)) false true := by kernel_rfl
theorem pair_t3 (h o r d t : Int) (f : Bool) : pair_b [.int .i64 h, .int .i64 o, .int .i64 r, .int .i64 d, .int .i64 t, .bool false, .bool f] [] = pairT (w64 (3 + pickI h 200)) (w64 (3 + pickI o 200)) (w64 (1 + pickI r 60)) (pickI d 9) (w64 (40 + pickI t 361)) false false := by kernel_rfl
end Go.Proofs.Ytbeolnccdhjjeaa
