/- Sessions: copies of events, bounds, new sessions. -/
import Derived.Test.YtbeolnccdhjjeaaPart2
import Derived.Test.YtbeolnccdhjjeaaMachine4
namespace Go.Proofs.Ytbeolnccdhjjeaa
open Go.Am
set_option maxRecDepth 100000
noncomputable abbrev opn (T : Nat → Option CSumm) (fn : Func) : CSumm := bodyC Try.prog (openT Try.prog T 300 5) (fun g => inl T g && hasBody Try.prog g) true 300 fn
abbrev κe := tbl [(74, cloneS 22 4), (75, cloneS 23 4), (76, cloneS 119 8), (54, cloneS 103 80)]
theorem oke : KOk Try.prog κe := tbl_cons ow74_k (tbl_cons ow75_k (tbl_cons ow76_k (tbl_cons ow54_k ok0)))
def ownA_s : CSumm
  | [.agg [.int .i64 ori, .psl 22 path, .int .u32 nx, .bool hm, .int .u32 med, .bool hp, .int .u32 prf, .bool hor, .int .u32 orr, .psl 23 cl, .psl 119 cm, .int .i64 tk, .int .u32 tl, .int .u32 tr, .int .u32 tg]], [] =>
    .ite (bndE 4 path) (.ite (bndE 4 cl) (.ite (bndE 8 cm) (.ret (.agg [.int .i64 ori, .psl 22 path, .int .u32 nx, .bool hm, .int .u32 med, .bool hp, .int .u32 prf, .bool hor, .int .u32 orr, .psl 23 cl, .psl 119 cm, .int .i64 tk, .int .u32 tl, .int .u32 tr, .int .u32 tg]) []) .fail) .fail) .fail
  | _, _ => .fail
theorem ownA_k : Known Try.prog 53 ownA_s := (openKnown oke Try.func53 rfl).weak (by
  intro args H v ups h
  unfold ownA_s at h
  split at h
  · rename_i ori path nx hm med hp prf hor orr cl cm tk tl tr tg
    rw [← h]
    have e : opn κe Try.f53 [.agg [.int .i64 ori, .psl 22 path, .int .u32 nx, .bool hm, .int .u32 med, .bool hp, .int .u32 prf, .bool hor, .int .u32 orr, .psl 23 cl, .psl 119 cm, .int .i64 tk, .int .u32 tl, .int .u32 tr, .int .u32 tg]] [] =
      bif bndE 4 path then bif bndE 4 cl then bif bndE 8 cm then .ret (.agg [.int .i64 ori, .psl 22 path, .int .u32 nx, .bool hm, .int .u32 med, .bool hp, .int .u32 prf, .bool hor, .int .u32 orr, .psl 23 cl, .psl 119 cm, .int .i64 tk, .int .u32 tl, .int .u32 tr, .int .u32 tg]) [] else .fail else .fail else .fail := by kernel_rfl
    refine (congrArg crun e).trans ?_
    simp only [crun_ite, crun_cond]
  · cases h)
abbrev κe2 := tbl [(53, ownA_s), (54, cloneS 103 80)]
theorem oke2 : KOk Try.prog κe2 := tbl_cons ownA_k (tbl_cons ow54_k ok0)
def ownM_s : CSumm
  | [.agg [.int .i64 kind, .int .u32 mas, .int .i64 mh, .int .u32 mid, .int .i64 mrs, .bool mrd, .int .i64 code, .int .i64 sub, .int .i64 ori, .psl 22 path, .int .u32 nx, .bool hm, .int .u32 med, .bool hp, .int .u32 prf, .bool hor, .int .u32 orr, .psl 23 cl, .psl 119 cm, .int .i64 tk, .int .u32 tl, .int .u32 tr, .int .u32 tg, .psl 103 reach, .psl 103 un]], [] =>
    let m : Msg := ⟨kind, mas, mh, mid, mrs, mrd, code, sub, ori, path, nx, hm, med, hp, prf, hor, orr, cl, cm, tk, tl, tr, tg, reach, un⟩
    .ite (lightB m) (.ret m.v []) .fail
  | _, _ => .fail
theorem ownM_t (m : Msg) : opn κe2 Try.f35 [m.v] [] = bif bndE 4 m.path then bif bndE 4 m.cl then bif bndE 8 m.cm then bif bndE 80 m.reach then bif bndE 80 m.un then .ret m.v [] else .fail else .fail else .fail else .fail else .fail := by kernel_rfl
theorem ownM_k : Known Try.prog 35 ownM_s := (openKnown oke2 Try.func35 rfl).weak (by
  intro args H v ups h
  unfold ownM_s at h
  split at h
  · rename_i kind mas mh mid mrs mrd code sub ori path nx hm med hp prf hor orr cl cm tk tl tr tg reach un
    rw [← h]
    refine (congrArg crun (ownM_t ⟨kind, mas, mh, mid, mrs, mrd, code, sub, ori, path, nx, hm, med, hp, prf, hor, orr, cl, cm, tk, tl, tr, tg, reach, un⟩)).trans ?_
    simp only [crun_ite, crun_cond, lightB]
    cases bndE 4 path <;> cases bndE 4 cl <;> cases bndE 8 cm <;> cases bndE 80 reach <;> cases bndE 80 un <;> rfl
  · cases h)
abbrev κe3 := tbl [(35, ownM_s)]
theorem oke3 : KOk Try.prog κe3 := tbl_cons ownM_k ok0
def event_s : CSumm
  | [.agg [.int .i64 k, .int .i64 kind, .int .u32 mas, .int .i64 mh, .int .u32 mid, .int .i64 mrs, .bool mrd, .int .i64 code, .int .i64 sub, .int .i64 ori, .psl 22 path, .int .u32 nx, .bool hm, .int .u32 med, .bool hp, .int .u32 prf, .bool hor, .int .u32 orr, .psl 23 cl, .psl 119 cm, .int .i64 tk, .int .u32 tl, .int .u32 tr, .int .u32 tg, .psl 103 reach, .psl 103 un]], [] =>
    let m : Msg := ⟨kind, mas, mh, mid, mrs, mrd, code, sub, ori, path, nx, hm, med, hp, prf, hor, orr, cl, cm, tk, tl, tr, tg, reach, un⟩
    .ite (lightB m) (.ret (evV k m) []) .fail
  | _, _ => .fail
theorem event_t (k : Int) (m : Msg) : opn κe3 Try.f16 [evV k m] [] = bif lightB m then .ret (evV k m) [] else .fail := by kernel_rfl
theorem event_k : Known Try.prog 16 event_s := (openKnown oke3 Try.func16 rfl).weak (by
  intro args H v ups h
  unfold event_s at h
  split at h
  · rename_i k kind mas mh mid mrs mrd code sub ori path nx hm med hp prf hor orr cl cm tk tl tr tg reach un
    rw [← h]
    refine (congrArg crun (event_t k ⟨kind, mas, mh, mid, mrs, mrd, code, sub, ori, path, nx, hm, med, hp, prf, hor, orr, cl, cm, tk, tl, tr, tg, reach, un⟩)).trans ?_
    simp only [crun_ite, crun_cond]
  · cases h)
def lightM (m : Msg) : Bool := and2 (and2 (and2 (and2 (decide ((m.path.length : Int) ≤ 40)) (decide ((m.cl.length : Int) ≤ 20))) (decide ((m.cm.length : Int) ≤ 80))) (decide ((m.reach.length : Int) ≤ 40))) (decide ((m.un.length : Int) ≤ 40))
def lightM_s : CSumm
  | [.agg [.int .i64 kind, .int .u32 mas, .int .i64 mh, .int .u32 mid, .int .i64 mrs, .bool mrd, .int .i64 code, .int .i64 sub, .int .i64 ori, .psl 22 path, .int .u32 nx, .bool hm, .int .u32 med, .bool hp, .int .u32 prf, .bool hor, .int .u32 orr, .psl 23 cl, .psl 119 cm, .int .i64 tk, .int .u32 tl, .int .u32 tr, .int .u32 tg, .psl 103 reach, .psl 103 un]], [] =>
    .ret (.bool (lightM ⟨kind, mas, mh, mid, mrs, mrd, code, sub, ori, path, nx, hm, med, hp, prf, hor, orr, cl, cm, tk, tl, tr, tg, reach, un⟩)) []
  | _, _ => .fail
theorem lightM_t (m : Msg) : opn (tbl []) Try.f26 [m.v] [] = .ret (.bool (lightM m)) [] := by kernel_rfl
theorem lightM_k : Known Try.prog 26 lightM_s := (openKnown ok0 Try.func26 rfl).weak (by
  intro args H v ups h
  unfold lightM_s at h
  split at h
  · rename_i kind mas mh mid mrs mrd code sub ori path nx hm med hp prf hor orr cl cm tk tl tr tg reach un
    rw [← h]
    exact congrArg crun (lightM_t ⟨kind, mas, mh, mid, mrs, mrd, code, sub, ori, path, nx, hm, med, hp, prf, hor, orr, cl, cm, tk, tl, tr, tg, reach, un⟩)
  · cases h)
theorem bnd_of {b : Nat} {l : List SV} {n : Nat} (h : l.length ≤ n) (hn : n ≤ 1000) (hb : b ≤ 1000) : bndE b l = true := by
  unfold bndE
  have : l.length * b ≤ 1000 * 1000 := Nat.mul_le_mul (by omega) hb
  simp only [Bool.and_eq_true, decide_eq_true_eq]
  omega
theorem light_ok {m : Msg} (h : lightM m = true) : lightB m = true := by
  unfold lightM at h
  simp only [and2_eq, Bool.and_eq_true, decide_eq_true_eq] at h
  obtain ⟨⟨⟨⟨h1, h2⟩, h3⟩, h4⟩, h5⟩ := h
  unfold lightB
  rw [bnd_of (n := 40) (by omega) (by omega) (by omega), bnd_of (n := 20) (by omega) (by omega) (by omega), bnd_of (n := 80) (by omega) (by omega) (by omega), bnd_of (n := 40) (by omega) (by omega) (by omega), bnd_of (n := 40) (by omega) (by omega) (by omega)]
  rfl
/-- New sessions. -/
def cfgOk (b c d e f : Int) : Bool := and2 (and2 (and2 (and2 (and2 (and2 (and2 (b != 0) (c != 0)) (b != c)) (holdB d)) (decide (e ≥ 1))) (decide (e ≤ 65535))) (decide (f ≥ 0))) (decide (f ≤ 4095))
theorem cfgOk_eq (b c d e f : Int) : cfgOk b c d e f = soundB b c d e f := by
  unfold cfgOk soundB; simp only [and2_eq]
def newS (a b c d e f : Int) (g h : Bool) : Ses := bif cfgOk b c d e f then ⟨0, a, b, c, d, e, f, g, h, 0, 0, 0, 0, false, 0, -1, -1, -1⟩ else ⟨0, 0, 0, 0, 0, 0, 0, false, false, 0, 0, 0, 0, false, 0, 0, 0, 0⟩
def new_s : CSumm
  | [.agg [.int .u32 a, .int .u32 b, .int .u32 c, .int .i64 d, .int .i64 e, .int .i64 f, .bool g, .bool h]], [] => .ret (.tup [(newS a b c d e f g h).v, .int .i64 (bif cfgOk b c d e f then 0 else 2)]) []
  | _, _ => .fail
theorem new_t (a b c d e f : Int) (g h : Bool) : opn (tbl [(29, hold_s)]) Try.f11 [.agg [.int .u32 a, .int .u32 b, .int .u32 c, .int .i64 d, .int .i64 e, .int .i64 f, .bool g, .bool h]] [] =
  bif !cfgOk b c d e f then .ret (.tup [Ses.v ⟨0, 0, 0, 0, 0, 0, 0, false, false, 0, 0, 0, 0, false, 0, 0, 0, 0⟩, .int .i64 2]) [] else .ret (.tup [Ses.v ⟨0, a, b, c, d, e, f, g, h, 0, 0, 0, 0, false, 0, -1, -1, -1⟩, .int .i64 0]) [] := by kernel_rfl
theorem rnew_t (a b c d e f : Int) (g h : Bool) : opn (tbl [(31, hold_s)]) Try.f12 [.agg [.int .u32 a, .int .u32 b, .int .u32 c, .int .i64 d, .int .i64 e, .int .i64 f, .bool g, .bool h]] [] =
  bif !cfgOk b c d e f then .ret (.tup [Ses.v ⟨0, 0, 0, 0, 0, 0, 0, false, false, 0, 0, 0, 0, false, 0, 0, 0, 0⟩, .int .i64 2]) [] else .ret (.tup [Ses.v ⟨0, a, b, c, d, e, f, g, h, 0, 0, 0, 0, false, 0, -1, -1, -1⟩, .int .i64 0]) [] := by kernel_rfl
theorem new_tree (a b c d e f : Int) (g h : Bool) : crun (bif !cfgOk b c d e f then .ret (.tup [Ses.v ⟨0, 0, 0, 0, 0, 0, 0, false, false, 0, 0, 0, 0, false, 0, 0, 0, 0⟩, .int .i64 2]) [] else .ret (.tup [Ses.v ⟨0, a, b, c, d, e, f, g, h, 0, 0, 0, 0, false, 0, -1, -1, -1⟩, .int .i64 0]) []) =
    crun (.ret (.tup [(newS a b c d e f g h).v, .int .i64 (bif cfgOk b c d e f then 0 else 2)]) []) := by
  unfold newS
  cases cfgOk b c d e f <;> rfl
theorem new_k : Known Try.prog 11 new_s := (openKnown (T := tbl [(29, hold_s)]) (tbl_cons hold_k ok0) Try.func11 rfl).weak (by
  intro args H v ups h
  unfold new_s at h
  split at h
  · rename_i a b c d e f g h'
    rw [← h, ← new_tree]
    exact congrArg crun (new_t a b c d e f g h')
  · cases h)
theorem rnew_k : Known Try.prog 12 new_s := (openKnown (T := tbl [(31, hold_s)]) (tbl_cons rhold_k ok0) Try.func12 rfl).weak (by
  intro args H v ups h
  unfold new_s at h
  split at h
  · rename_i a b c d e f g h'
    rw [← h, ← new_tree]
    exact congrArg crun (rnew_t a b c d e f g h')
  · cases h)
end Go.Proofs.Ytbeolnccdhjjeaa
/- Sessions: a step in one leaf; lists that are equal are found the same. -/
namespace Go.Proofs.Ytbeolnccdhjjeaa
open Go.Am
set_option maxRecDepth 100000
noncomputable def stepL_s : CSumm
  | [.agg [.int .i64 ph, .int .u32 asn, .int .u32 id, .int .u32 pe, .int .i64 ho, .int .i64 re, .int .i64 rs, .bool pas, .bool rsd, .int .u32 oas, .int .i64 oh, .int .u32 oid, .int .i64 ors, .bool ord, .int .i64 hold, .int .i64 ex, .int .i64 al, .int .i64 ret],
     .agg [.int .i64 k, .int .i64 kind, .int .u32 mas, .int .i64 mh, .int .u32 mid, .int .i64 mrs, .bool mrd, .int .i64 code, .int .i64 sub, .int .i64 ori, .psl 22 path, .int .u32 nx, .bool hm, .int .u32 med, .bool hp, .int .u32 prf, .bool hor, .int .u32 orr, .psl 23 cl, .psl 119 cm, .int .i64 tk, .int .u32 tl, .int .u32 tr, .int .u32 tg, .psl 103 reach, .psl 103 un],
     .int .i64 now], [] =>
    let m : Msg := ⟨kind, mas, mh, mid, mrs, mrd, code, sub, ori, path, nx, hm, med, hp, prf, hor, orr, cl, cm, tk, tl, tr, tg, reach, un⟩
    let p := stepP ⟨ph, asn, id, pe, ho, re, rs, pas, rsd, oas, oh, oid, ors, ord, hold, ex, al, ret⟩ k m now
    .ite (lightB m) (.ret (.tup [p.1.v, .qs 0 27 0 p.2.length]) [(0, some (.seq 57 (p.2.map Act.v)))]) .fail
  | _, _ => .fail
theorem stepL_of {f : FuncId} (h : Known Try.prog f step_s) : Known Try.prog f stepL_s := known_grown h (by
  intro args H v ups hr
  unfold stepL_s at hr
  split at hr
  · rename_i ph asn id pe ho re rs pas rsd oas oh oid ors ord hold ex al ret k kind mas mh mid mrs mrd code sub ori path nx hm med hp prf hor orr cl cm tk tl tr tg reach un now
    unfold step_s
    simp only [crun_ite] at hr ⊢
    generalize lightB _ = b at hr ⊢
    generalize stepP _ _ _ _ = p at hr ⊢
    obtain ⟨s, l⟩ := p
    cases b with
    | false => cases hr
    | true =>
      simp only [cond_true, crun, Option.some.injEq, Prod.mk.injEq] at hr
      obtain ⟨rfl, rfl⟩ := hr
      cases l with
      | nil => first | exact .inr ⟨_, _, _, rfl, rfl, rfl, rfl, rfl, rfl⟩ | exact .inr ⟨_, _, _, trivial, rfl, rfl, rfl, rfl, rfl⟩
      | cons a l => exact .inl rfl
  · cases hr)
theorem stepL_k : Known Try.prog 15 (stepC stepL_s) := (stepL_of step_k).co _
theorem refL_k : Known Try.prog 17 (stepC stepL_s) := (stepL_of ref_k).co _

def leftL (xs : List SV) (i : Int) : Nat := ((xs.length : Int) - i).toNat
def sameM : List SV → HpL → Nat
  | [.psl _ xs, .psl _ _, .int .i64 i], _ => leftL xs i
  | _, _ => 0
open Classical in
noncomputable def sameI (xs ys : List SV) (i : Int) : Bool := decide (xs = ys) && decide (0 ≤ i) && decide (i ≤ xs.length) && decide (xs.length ≤ 1000000)
theorem sameI_iff {xs ys : List SV} {i : Int} : sameI xs ys i = true ↔ xs = ys ∧ 0 ≤ i ∧ i ≤ xs.length ∧ xs.length ≤ 1000000 := by
  simp only [sameI, Bool.and_eq_true, decide_eq_true_eq, and_assoc]
theorem negAll {b : Bool} (h : b = true) : (!b) = false := by rw [h]; rfl

noncomputable def sameL44 : CSumm
  | [.psl 103 xs, .psl 103 ys, .int .i64 i], [] => .ite (sameI xs ys i) (.ret (.tup [.int .i64 2]) []) .fail
  | _, _ => .fail
noncomputable def body44 : Code := Try.f44.body.getD .skip
noncomputable def cS44 : Code := (loopAt 4 body44).getD .skip
noncomputable def eS44 : LEnt := { ins := [0, 1, 5], outs := [], keep := [], size := 26, code := cS44, s := sameL44 }
def neq44 (xs ys : List SV) (i : Int) : Bool := !(asI (cellAt (xs.getD i.toNat .junk) 0) == asI (cellAt (ys.getD i.toNat .junk) 0) && (asI (cellAt (xs.getD i.toNat .junk) 1) == asI (cellAt (ys.getD i.toNat .junk) 1) && (asI (cellAt (xs.getD i.toNat .junk) 2) == asI (cellAt (ys.getD i.toNat .junk) 2) && (asI (cellAt (xs.getD i.toNat .junk) 3) == asI (cellAt (ys.getD i.toNat .junk) 3) && (asI (cellAt (xs.getD i.toNat .junk) 4) == asI (cellAt (ys.getD i.toNat .junk) 4) && (asI (cellAt (xs.getD i.toNat .junk) 5) == asI (cellAt (ys.getD i.toNat .junk) 5) && (asI (cellAt (xs.getD i.toNat .junk) 6) == asI (cellAt (ys.getD i.toNat .junk) 6) && (asI (cellAt (xs.getD i.toNat .junk) 7) == asI (cellAt (ys.getD i.toNat .junk) 7) && (asI (cellAt (xs.getD i.toNat .junk) 8) == asI (cellAt (ys.getD i.toNat .junk) 8) && (asI (cellAt (xs.getD i.toNat .junk) 9) == asI (cellAt (ys.getD i.toNat .junk) 9) && (asI (cellAt (xs.getD i.toNat .junk) 10) == asI (cellAt (ys.getD i.toNat .junk) 10) && (asI (cellAt (xs.getD i.toNat .junk) 11) == asI (cellAt (ys.getD i.toNat .junk) 11) && (asI (cellAt (xs.getD i.toNat .junk) 12) == asI (cellAt (ys.getD i.toNat .junk) 12) && (asI (cellAt (xs.getD i.toNat .junk) 13) == asI (cellAt (ys.getD i.toNat .junk) 13) && (asI (cellAt (xs.getD i.toNat .junk) 14) == asI (cellAt (ys.getD i.toNat .junk) 14) && (asB (cellAt (xs.getD i.toNat .junk) 15) == asB (cellAt (ys.getD i.toNat .junk) 15) && (asI (cellAt (xs.getD i.toNat .junk) 16) == asI (cellAt (ys.getD i.toNat .junk) 16) && (asI (cellAt (xs.getD i.toNat .junk) 17) == asI (cellAt (ys.getD i.toNat .junk) 17) && (asI (cellAt (xs.getD i.toNat .junk) 18) == asI (cellAt (ys.getD i.toNat .junk) 18) && (asI (cellAt (xs.getD i.toNat .junk) 19) == asI (cellAt (ys.getD i.toNat .junk) 19) && (asI (cellAt (xs.getD i.toNat .junk) 20) == asI (cellAt (ys.getD i.toNat .junk) 20))))))))))))))))))))))
theorem roundS44 (n : Nat) (xs ys : List SV) (i : Int) : loopOnce Try.prog (tbl []) (fun _ => false) (ltab []) true 300 eS44 { eS44 with s := boundT sameM sameL44 n } cS44 [.psl 103 xs, .psl 103 ys, .int .i64 i] [] =
  bif decide (i < (xs.length : Int)) then bif inB i xs.length then bif inB i ys.length then bif neq44 xs ys i then .ret (.tup [.int .i64 1]) [] else
    bif Nat.blt (leftL xs (w64 (i + 1))) n then bif sameI xs ys (w64 (i + 1)) then .ret (.tup [.int .i64 2]) [] else .fail else .fail
  else .fail else .fail else .ret (.tup [.int .i64 2]) [] := by kernel_rfl
theorem same44_valid : ValidL Try.prog eS44 := loop_valid (κ := tbl []) (ι := fun _ => false) (T := ltab []) (sp := true) (fuel := 300) (c := cS44) (μ := sameM) ok0 mixTry ltab_nil (show fillC (ltab []) cS44 = cS44 by kernel_rfl) (by
  intro n args H r hb hr
  have hr' : crun (sameL44 args H) = some r := hr
  unfold sameL44 at hr'
  split at hr'
  · rename_i xs ys i
    rw [crun_ite] at hr'
    cases hc : sameI xs ys i with
    | false => rw [hc] at hr'; cases hr'
    | true =>
      rw [hc, cond_true] at hr'
      obtain ⟨rfl, h0, h1, h2⟩ := sameI_iff.1 hc
      rw [← hr']
      refine (congrArg crun (roundS44 n xs xs i)).trans ?_
      have hb' : leftL xs i < n + 1 := by
        have : Nat.blt (leftL xs i) (n + 1) = true := hb
        rwa [Nat.blt_eq] at this
      by_cases hlt : i < xs.length
      · have w1 : w64 (i + 1) = i + 1 := w64_id (by omega) (by omega)
        have hin : inB i xs.length = true := by unfold inB; simp; omega
        have hne : neq44 xs xs i = false := by unfold neq44; simp
        have hbb : Nat.blt (leftL xs (i + 1)) n = true := by rw [Nat.blt_eq]; unfold leftL at hb' ⊢; omega
        rw [decide_eq_true hlt, hin, hne, w1, hbb, sameI_iff.2 ⟨rfl, by omega, by omega, h2⟩]
        rfl
      · rw [show decide (i < (xs.length : Int)) = false by simp; omega]
        rfl
  · cases hr')
noncomputable abbrev TS44 : LTab := ltab [("s", eS44)]
noncomputable def mS44 : Code := markC [(4, "s")] body44
theorem fillS44 : Try.f44.body = some (fillC TS44 mS44) := by kernel_rfl
noncomputable def same_s44 : CSumm
  | [.psl 103 xs, .psl 103 ys], [] => .ite (sameI xs ys 0) (.ret (.bool true) []) .fail
  | _, _ => .fail
theorem sameB44 (xs ys : List SV) : bodyCL Try.prog (tbl []) (fun _ => false) TS44 true 300 Try.f44 mS44 [.psl 103 xs, .psl 103 ys] [] =
  bif (xs.length : Int) != (ys.length : Int) then .ret (.bool false) [] else bif sameI xs ys 0 then .ret (.bool true) [] else .fail := by kernel_rfl
theorem same44_k : Known Try.prog 44 same_s44 := (show Known Try.prog 44 (bodyCL Try.prog (tbl []) (fun _ => false) TS44 true 300 Try.f44 mS44) from ⟨⟨Try.f44, Try.func44, noNum_at noNumTry Try.func44, rfl⟩, bodyL_valid ok0 mixTry (ltab_cons same44_valid ltab_nil) Try.func44 fillS44⟩).weak (by
  intro args H v ups h
  unfold same_s44 at h
  split at h
  · rename_i xs ys
    rw [crun_ite] at h
    cases hc : sameI xs ys 0 with
    | false => rw [hc] at h; cases h
    | true =>
      rw [hc] at h
      obtain ⟨rfl, -⟩ := sameI_iff.1 hc
      rw [← h]
      refine (congrArg crun (sameB44 xs xs)).trans ?_
      rw [show ((xs.length : Int) != (xs.length : Int)) = false by simp, hc]
      rfl
  · cases h)

noncomputable def sameL57 : CSumm
  | [.psl 22 xs, .psl 22 ys, .int .i64 i], [] => .ite (sameI xs ys i) (.ret (.tup [.int .i64 2]) []) .fail
  | _, _ => .fail
noncomputable def body57 : Code := Try.f57.body.getD .skip
noncomputable def cS57 : Code := (loopAt 4 body57).getD .skip
noncomputable def eS57 : LEnt := { ins := [0, 1, 5], outs := [], keep := [], size := 26, code := cS57, s := sameL57 }
def neq57 (xs ys : List SV) (i : Int) : Bool := asI (xs.getD i.toNat .junk) != asI (ys.getD i.toNat .junk)
theorem roundS57 (n : Nat) (xs ys : List SV) (i : Int) : loopOnce Try.prog (tbl []) (fun _ => false) (ltab []) true 300 eS57 { eS57 with s := boundT sameM sameL57 n } cS57 [.psl 22 xs, .psl 22 ys, .int .i64 i] [] =
  bif decide (i < (xs.length : Int)) then bif inB i xs.length then bif inB i ys.length then bif neq57 xs ys i then .ret (.tup [.int .i64 1]) [] else
    bif Nat.blt (leftL xs (w64 (i + 1))) n then bif sameI xs ys (w64 (i + 1)) then .ret (.tup [.int .i64 2]) [] else .fail else .fail
  else .fail else .fail else .ret (.tup [.int .i64 2]) [] := by kernel_rfl
theorem same57_valid : ValidL Try.prog eS57 := loop_valid (κ := tbl []) (ι := fun _ => false) (T := ltab []) (sp := true) (fuel := 300) (c := cS57) (μ := sameM) ok0 mixTry ltab_nil (show fillC (ltab []) cS57 = cS57 by kernel_rfl) (by
  intro n args H r hb hr
  have hr' : crun (sameL57 args H) = some r := hr
  unfold sameL57 at hr'
  split at hr'
  · rename_i xs ys i
    rw [crun_ite] at hr'
    cases hc : sameI xs ys i with
    | false => rw [hc] at hr'; cases hr'
    | true =>
      rw [hc, cond_true] at hr'
      obtain ⟨rfl, h0, h1, h2⟩ := sameI_iff.1 hc
      rw [← hr']
      refine (congrArg crun (roundS57 n xs xs i)).trans ?_
      have hb' : leftL xs i < n + 1 := by
        have : Nat.blt (leftL xs i) (n + 1) = true := hb
        rwa [Nat.blt_eq] at this
      by_cases hlt : i < xs.length
      · have w1 : w64 (i + 1) = i + 1 := w64_id (by omega) (by omega)
        have hin : inB i xs.length = true := by unfold inB; simp; omega
        have hne : neq57 xs xs i = false := by unfold neq57; simp
        have hbb : Nat.blt (leftL xs (i + 1)) n = true := by rw [Nat.blt_eq]; unfold leftL at hb' ⊢; omega
        rw [decide_eq_true hlt, hin, hne, w1, hbb, sameI_iff.2 ⟨rfl, by omega, by omega, h2⟩]
        rfl
      · rw [show decide (i < (xs.length : Int)) = false by simp; omega]
        rfl
  · cases hr')
noncomputable abbrev TS57 : LTab := ltab [("s", eS57)]
noncomputable def mS57 : Code := markC [(4, "s")] body57
theorem fillS57 : Try.f57.body = some (fillC TS57 mS57) := by kernel_rfl
noncomputable def same_s57 : CSumm
  | [.psl 22 xs, .psl 22 ys], [] => .ite (sameI xs ys 0) (.ret (.bool true) []) .fail
  | _, _ => .fail
theorem sameB57 (xs ys : List SV) : bodyCL Try.prog (tbl []) (fun _ => false) TS57 true 300 Try.f57 mS57 [.psl 22 xs, .psl 22 ys] [] =
  bif (xs.length : Int) != (ys.length : Int) then .ret (.bool false) [] else bif sameI xs ys 0 then .ret (.bool true) [] else .fail := by kernel_rfl
theorem same57_k : Known Try.prog 57 same_s57 := (show Known Try.prog 57 (bodyCL Try.prog (tbl []) (fun _ => false) TS57 true 300 Try.f57 mS57) from ⟨⟨Try.f57, Try.func57, noNum_at noNumTry Try.func57, rfl⟩, bodyL_valid ok0 mixTry (ltab_cons same57_valid ltab_nil) Try.func57 fillS57⟩).weak (by
  intro args H v ups h
  unfold same_s57 at h
  split at h
  · rename_i xs ys
    rw [crun_ite] at h
    cases hc : sameI xs ys 0 with
    | false => rw [hc] at h; cases h
    | true =>
      rw [hc] at h
      obtain ⟨rfl, -⟩ := sameI_iff.1 hc
      rw [← h]
      refine (congrArg crun (sameB57 xs xs)).trans ?_
      rw [show ((xs.length : Int) != (xs.length : Int)) = false by simp, hc]
      rfl
  · cases h)

noncomputable def sameL58 : CSumm
  | [.psl 23 xs, .psl 23 ys, .int .i64 i], [] => .ite (sameI xs ys i) (.ret (.tup [.int .i64 2]) []) .fail
  | _, _ => .fail
noncomputable def body58 : Code := Try.f58.body.getD .skip
noncomputable def cS58 : Code := (loopAt 4 body58).getD .skip
noncomputable def eS58 : LEnt := { ins := [0, 1, 5], outs := [], keep := [], size := 26, code := cS58, s := sameL58 }
def neq58 (xs ys : List SV) (i : Int) : Bool := asI (xs.getD i.toNat .junk) != asI (ys.getD i.toNat .junk)
theorem roundS58 (n : Nat) (xs ys : List SV) (i : Int) : loopOnce Try.prog (tbl []) (fun _ => false) (ltab []) true 300 eS58 { eS58 with s := boundT sameM sameL58 n } cS58 [.psl 23 xs, .psl 23 ys, .int .i64 i] [] =
  bif decide (i < (xs.length : Int)) then bif inB i xs.length then bif inB i ys.length then bif neq58 xs ys i then .ret (.tup [.int .i64 1]) [] else
    bif Nat.blt (leftL xs (w64 (i + 1))) n then bif sameI xs ys (w64 (i + 1)) then .ret (.tup [.int .i64 2]) [] else .fail else .fail
  else .fail else .fail else .ret (.tup [.int .i64 2]) [] := by kernel_rfl
theorem same58_valid : ValidL Try.prog eS58 := loop_valid (κ := tbl []) (ι := fun _ => false) (T := ltab []) (sp := true) (fuel := 300) (c := cS58) (μ := sameM) ok0 mixTry ltab_nil (show fillC (ltab []) cS58 = cS58 by kernel_rfl) (by
  intro n args H r hb hr
  have hr' : crun (sameL58 args H) = some r := hr
  unfold sameL58 at hr'
  split at hr'
  · rename_i xs ys i
    rw [crun_ite] at hr'
    cases hc : sameI xs ys i with
    | false => rw [hc] at hr'; cases hr'
    | true =>
      rw [hc, cond_true] at hr'
      obtain ⟨rfl, h0, h1, h2⟩ := sameI_iff.1 hc
      rw [← hr']
      refine (congrArg crun (roundS58 n xs xs i)).trans ?_
      have hb' : leftL xs i < n + 1 := by
        have : Nat.blt (leftL xs i) (n + 1) = true := hb
        rwa [Nat.blt_eq] at this
      by_cases hlt : i < xs.length
      · have w1 : w64 (i + 1) = i + 1 := w64_id (by omega) (by omega)
        have hin : inB i xs.length = true := by unfold inB; simp; omega
        have hne : neq58 xs xs i = false := by unfold neq58; simp
        have hbb : Nat.blt (leftL xs (i + 1)) n = true := by rw [Nat.blt_eq]; unfold leftL at hb' ⊢; omega
        rw [decide_eq_true hlt, hin, hne, w1, hbb, sameI_iff.2 ⟨rfl, by omega, by omega, h2⟩]
        rfl
      · rw [show decide (i < (xs.length : Int)) = false by simp; omega]
        rfl
  · cases hr')
noncomputable abbrev TS58 : LTab := ltab [("s", eS58)]
noncomputable def mS58 : Code := markC [(4, "s")] body58
theorem fillS58 : Try.f58.body = some (fillC TS58 mS58) := by kernel_rfl
noncomputable def same_s58 : CSumm
  | [.psl 23 xs, .psl 23 ys], [] => .ite (sameI xs ys 0) (.ret (.bool true) []) .fail
  | _, _ => .fail
theorem sameB58 (xs ys : List SV) : bodyCL Try.prog (tbl []) (fun _ => false) TS58 true 300 Try.f58 mS58 [.psl 23 xs, .psl 23 ys] [] =
  bif (xs.length : Int) != (ys.length : Int) then .ret (.bool false) [] else bif sameI xs ys 0 then .ret (.bool true) [] else .fail := by kernel_rfl
theorem same58_k : Known Try.prog 58 same_s58 := (show Known Try.prog 58 (bodyCL Try.prog (tbl []) (fun _ => false) TS58 true 300 Try.f58 mS58) from ⟨⟨Try.f58, Try.func58, noNum_at noNumTry Try.func58, rfl⟩, bodyL_valid ok0 mixTry (ltab_cons same58_valid ltab_nil) Try.func58 fillS58⟩).weak (by
  intro args H v ups h
  unfold same_s58 at h
  split at h
  · rename_i xs ys
    rw [crun_ite] at h
    cases hc : sameI xs ys 0 with
    | false => rw [hc] at h; cases h
    | true =>
      rw [hc] at h
      obtain ⟨rfl, -⟩ := sameI_iff.1 hc
      rw [← h]
      refine (congrArg crun (sameB58 xs xs)).trans ?_
      rw [show ((xs.length : Int) != (xs.length : Int)) = false by simp, hc]
      rfl
  · cases h)

noncomputable def sameL59 : CSumm
  | [.psl 119 xs, .psl 119 ys, .int .i64 i], [] => .ite (sameI xs ys i) (.ret (.tup [.int .i64 2]) []) .fail
  | _, _ => .fail
noncomputable def body59 : Code := Try.f59.body.getD .skip
noncomputable def cS59 : Code := (loopAt 4 body59).getD .skip
noncomputable def eS59 : LEnt := { ins := [0, 1, 5], outs := [], keep := [], size := 26, code := cS59, s := sameL59 }
def neq59 (xs ys : List SV) (i : Int) : Bool := !(asI (cellAt (xs.getD i.toNat .junk) 0) == asI (cellAt (ys.getD i.toNat .junk) 0) && (asI (cellAt (xs.getD i.toNat .junk) 1) == asI (cellAt (ys.getD i.toNat .junk) 1) && (asI (cellAt (xs.getD i.toNat .junk) 2) == asI (cellAt (ys.getD i.toNat .junk) 2) && (asI (cellAt (xs.getD i.toNat .junk) 3) == asI (cellAt (ys.getD i.toNat .junk) 3) && (asI (cellAt (xs.getD i.toNat .junk) 4) == asI (cellAt (ys.getD i.toNat .junk) 4) && (asI (cellAt (xs.getD i.toNat .junk) 5) == asI (cellAt (ys.getD i.toNat .junk) 5) && (asI (cellAt (xs.getD i.toNat .junk) 6) == asI (cellAt (ys.getD i.toNat .junk) 6) && (asI (cellAt (xs.getD i.toNat .junk) 7) == asI (cellAt (ys.getD i.toNat .junk) 7)))))))))
theorem roundS59 (n : Nat) (xs ys : List SV) (i : Int) : loopOnce Try.prog (tbl []) (fun _ => false) (ltab []) true 300 eS59 { eS59 with s := boundT sameM sameL59 n } cS59 [.psl 119 xs, .psl 119 ys, .int .i64 i] [] =
  bif decide (i < (xs.length : Int)) then bif inB i xs.length then bif inB i ys.length then bif neq59 xs ys i then .ret (.tup [.int .i64 1]) [] else
    bif Nat.blt (leftL xs (w64 (i + 1))) n then bif sameI xs ys (w64 (i + 1)) then .ret (.tup [.int .i64 2]) [] else .fail else .fail
  else .fail else .fail else .ret (.tup [.int .i64 2]) [] := by kernel_rfl
theorem same59_valid : ValidL Try.prog eS59 := loop_valid (κ := tbl []) (ι := fun _ => false) (T := ltab []) (sp := true) (fuel := 300) (c := cS59) (μ := sameM) ok0 mixTry ltab_nil (show fillC (ltab []) cS59 = cS59 by kernel_rfl) (by
  intro n args H r hb hr
  have hr' : crun (sameL59 args H) = some r := hr
  unfold sameL59 at hr'
  split at hr'
  · rename_i xs ys i
    rw [crun_ite] at hr'
    cases hc : sameI xs ys i with
    | false => rw [hc] at hr'; cases hr'
    | true =>
      rw [hc, cond_true] at hr'
      obtain ⟨rfl, h0, h1, h2⟩ := sameI_iff.1 hc
      rw [← hr']
      refine (congrArg crun (roundS59 n xs xs i)).trans ?_
      have hb' : leftL xs i < n + 1 := by
        have : Nat.blt (leftL xs i) (n + 1) = true := hb
        rwa [Nat.blt_eq] at this
      by_cases hlt : i < xs.length
      · have w1 : w64 (i + 1) = i + 1 := w64_id (by omega) (by omega)
        have hin : inB i xs.length = true := by unfold inB; simp; omega
        have hne : neq59 xs xs i = false := by unfold neq59; simp
        have hbb : Nat.blt (leftL xs (i + 1)) n = true := by rw [Nat.blt_eq]; unfold leftL at hb' ⊢; omega
        rw [decide_eq_true hlt, hin, hne, w1, hbb, sameI_iff.2 ⟨rfl, by omega, by omega, h2⟩]
        rfl
      · rw [show decide (i < (xs.length : Int)) = false by simp; omega]
        rfl
  · cases hr')
noncomputable abbrev TS59 : LTab := ltab [("s", eS59)]
noncomputable def mS59 : Code := markC [(4, "s")] body59
theorem fillS59 : Try.f59.body = some (fillC TS59 mS59) := by kernel_rfl
noncomputable def same_s59 : CSumm
  | [.psl 119 xs, .psl 119 ys], [] => .ite (sameI xs ys 0) (.ret (.bool true) []) .fail
  | _, _ => .fail
theorem sameB59 (xs ys : List SV) : bodyCL Try.prog (tbl []) (fun _ => false) TS59 true 300 Try.f59 mS59 [.psl 119 xs, .psl 119 ys] [] =
  bif (xs.length : Int) != (ys.length : Int) then .ret (.bool false) [] else bif sameI xs ys 0 then .ret (.bool true) [] else .fail := by kernel_rfl
theorem same59_k : Known Try.prog 59 same_s59 := (show Known Try.prog 59 (bodyCL Try.prog (tbl []) (fun _ => false) TS59 true 300 Try.f59 mS59) from ⟨⟨Try.f59, Try.func59, noNum_at noNumTry Try.func59, rfl⟩, bodyL_valid ok0 mixTry (ltab_cons same59_valid ltab_nil) Try.func59 fillS59⟩).weak (by
  intro args H v ups h
  unfold same_s59 at h
  split at h
  · rename_i xs ys
    rw [crun_ite] at h
    cases hc : sameI xs ys 0 with
    | false => rw [hc] at h; cases h
    | true =>
      rw [hc] at h
      obtain ⟨rfl, -⟩ := sameI_iff.1 hc
      rw [← h]
      refine (congrArg crun (sameB59 xs xs)).trans ?_
      rw [show ((xs.length : Int) != (xs.length : Int)) = false by simp, hc]
      rfl
  · cases h)
end Go.Proofs.Ytbeolnccdhjjeaa
/- Sessions: messages and actions that are equal are found the same. -/
namespace Go.Proofs.Ytbeolnccdhjjeaa
open Go.Am
set_option maxRecDepth 100000
noncomputable abbrev κm := tbl [(44, same_s44), (57, same_s57), (58, same_s58), (59, same_s59)]
theorem okm : KOk Try.prog κm := tbl_cons same44_k (tbl_cons same57_k (tbl_cons same58_k (tbl_cons same59_k ok0)))
abbrev Msg.at (m : Msg) : SV := .agg [.int .i64 m.ori, .psl 22 m.path, .int .u32 m.nx, .bool m.hm, .int .u32 m.med, .bool m.hp, .int .u32 m.prf, .bool m.hor, .int .u32 m.orr, .psl 23 m.cl, .psl 119 m.cm, .int .i64 m.tk, .int .u32 m.tl, .int .u32 m.tr, .int .u32 m.tg]
open Classical in
noncomputable def eqV (a b : SV) : Bool := decide (a = b)
theorem eqV_iff {a b : SV} : eqV a b = true ↔ a = b := by simp [eqV]
theorem eqV_refl (a : SV) : eqV a a = true := eqV_iff.2 rfl
noncomputable def sizeA (m : Msg) : Bool := sameI m.path m.path 0 && sameI m.cl m.cl 0 && sameI m.cm m.cm 0
noncomputable def sizeM (m : Msg) : Bool := sizeA m && sameI m.reach m.reach 0 && sameI m.un m.un 0
noncomputable def sameA_s : CSumm
  | [.agg [.int .i64 ori, .psl 22 path, .int .u32 nx, .bool hm, .int .u32 med, .bool hp, .int .u32 prf, .bool hor, .int .u32 orr, .psl 23 cl, .psl 119 cm, .int .i64 tk, .int .u32 tl, .int .u32 tr, .int .u32 tg],
     .agg [.int .i64 ori', .psl 22 path', .int .u32 nx', .bool hm', .int .u32 med', .bool hp', .int .u32 prf', .bool hor', .int .u32 orr', .psl 23 cl', .psl 119 cm', .int .i64 tk', .int .u32 tl', .int .u32 tr', .int .u32 tg']], [] =>
    let m : Msg := ⟨0, 0, 0, 0, 0, false, 0, 0, ori, path, nx, hm, med, hp, prf, hor, orr, cl, cm, tk, tl, tr, tg, [], []⟩
    let m' : Msg := ⟨0, 0, 0, 0, 0, false, 0, 0, ori', path', nx', hm', med', hp', prf', hor', orr', cl', cm', tk', tl', tr', tg', [], []⟩
    .ite (eqV m.at m'.at && sizeA m) (.ret (.bool true) []) .fail
  | _, _ => .fail
def okAt (m : Msg) (y n : CTree) : CTree :=
  bif m.ori == m.ori then bif m.nx == m.nx then bif m.hm == m.hm then bif m.med == m.med then bif m.hp == m.hp then bif m.prf == m.prf then bif m.hor == m.hor then bif m.orr == m.orr then y else n else n else n else n else n else n else n else n
theorem sameA_t (m : Msg) : opn κm Try.f43 [m.at, m.at] [] =
  bif m.ori == m.ori then bif sameI m.path m.path 0 then bif m.nx == m.nx then bif m.hm == m.hm then bif m.med == m.med then bif m.hp == m.hp then bif m.prf == m.prf then bif m.hor == m.hor then bif m.orr == m.orr then
    bif sameI m.cl m.cl 0 then bif sameI m.cm m.cm 0 then .ret (.bool (m.tk == m.tk && (m.tl == m.tl && (m.tr == m.tr && m.tg == m.tg)))) [] else .fail else .fail
  else .ret (.bool false) [] else .ret (.bool false) [] else .ret (.bool false) [] else .ret (.bool false) [] else .ret (.bool false) [] else .ret (.bool false) [] else .ret (.bool false) [] else .fail else .ret (.bool false) [] := by kernel_rfl
theorem sameA_k : Known Try.prog 43 sameA_s := (openKnown okm Try.func43 rfl).weak (by
  intro args H v ups h
  unfold sameA_s at h
  split at h
  · rename_i ori path nx hm med hp prf hor orr cl cm tk tl tr tg ori' path' nx' hm' med' hp' prf' hor' orr' cl' cm' tk' tl' tr' tg'
    simp only [crun_ite] at h
    cases hc : (eqV (Msg.at ⟨0, 0, 0, 0, 0, false, 0, 0, ori, path, nx, hm, med, hp, prf, hor, orr, cl, cm, tk, tl, tr, tg, [], []⟩) (Msg.at ⟨0, 0, 0, 0, 0, false, 0, 0, ori', path', nx', hm', med', hp', prf', hor', orr', cl', cm', tk', tl', tr', tg', [], []⟩) &&
      sizeA ⟨0, 0, 0, 0, 0, false, 0, 0, ori, path, nx, hm, med, hp, prf, hor, orr, cl, cm, tk, tl, tr, tg, [], []⟩) with
    | false => rw [hc] at h; cases h
    | true =>
      rw [hc] at h
      rw [Bool.and_eq_true, eqV_iff] at hc
      obtain ⟨he, hs⟩ := hc
      rw [← h]
      show crun (opn κm Try.f43 [Msg.at ⟨0, 0, 0, 0, 0, false, 0, 0, ori, path, nx, hm, med, hp, prf, hor, orr, cl, cm, tk, tl, tr, tg, [], []⟩, Msg.at ⟨0, 0, 0, 0, 0, false, 0, 0, ori', path', nx', hm', med', hp', prf', hor', orr', cl', cm', tk', tl', tr', tg', [], []⟩] []) = _
      rw [← he, sameA_t]
      simp only [sizeA, Bool.and_eq_true] at hs
      simp only [hs, beq_self_eq_true, Bool.and_self, cond_true]
  · cases h)
noncomputable abbrev κm2 := tbl [(43, sameA_s), (44, same_s44)]
theorem okm2 : KOk Try.prog κm2 := tbl_cons sameA_k (tbl_cons same44_k ok0)
def onlyA (m : Msg) : Msg := ⟨0, 0, 0, 0, 0, false, 0, 0, m.ori, m.path, m.nx, m.hm, m.med, m.hp, m.prf, m.hor, m.orr, m.cl, m.cm, m.tk, m.tl, m.tr, m.tg, [], []⟩
theorem sameM_t (m : Msg) : opn κm2 Try.f19 [m.v, m.v] [] =
  bif m.kind == m.kind then bif m.mas == m.mas && (m.mh == m.mh && (m.mid == m.mid && (m.mrs == m.mrs && m.mrd == m.mrd))) then bif m.code == m.code then bif m.sub == m.sub then
    bif eqV (onlyA m).at (onlyA m).at && sizeA (onlyA m) then bif sameI m.reach m.reach 0 then bif sameI m.un m.un 0 then .ret (.bool true) [] else .fail else .fail else .fail
  else .ret (.bool false) [] else .ret (.bool false) [] else .ret (.bool false) [] else .ret (.bool false) [] := by kernel_rfl
open Classical in
noncomputable def isM (a : SV) : Bool := decide (∃ m : Msg, a = m.v ∧ sizeM m = true)
theorem isM_iff {a : SV} : isM a = true ↔ ∃ m : Msg, a = m.v ∧ sizeM m = true := by simp [isM]
noncomputable def sameM_s : CSumm
  | [a, b], [] => .ite (eqV a b && isM a) (.ret (.bool true) []) .fail
  | _, _ => .fail
theorem sameM_k : Known Try.prog 19 sameM_s := (openKnown okm2 Try.func19 rfl).weak (by
  intro args H v ups h
  unfold sameM_s at h
  split at h
  · rename_i a b
    rw [crun_ite] at h
    cases hc : (eqV a b && isM a) with
    | false => rw [hc] at h; cases h
    | true =>
      rw [hc] at h
      rw [Bool.and_eq_true, eqV_iff, isM_iff] at hc
      obtain ⟨rfl, m, rfl, hs⟩ := hc
      rw [← h]
      refine (congrArg crun (sameM_t m)).trans ?_
      rw [eqV_refl]
      simp only [sizeM, Bool.and_eq_true] at hs
      have hsa : sizeA (onlyA m) = true := hs.1.1
      rw [hsa]
      simp only [hs, beq_self_eq_true, Bool.and_self, cond_true]
  · cases h)
/-- The message of an action, as it lies in a list. -/
def msgAt (v : SV) : Msg := ⟨asI (cellAt v 1), asI (cellAt v 2), asI (cellAt v 3), asI (cellAt v 4), asI (cellAt v 5), asB (cellAt v 6), asI (cellAt v 7), asI (cellAt v 8), asI (cellAt v 9), asL (cellAt v 10), asI (cellAt v 11), asB (cellAt v 12), asI (cellAt v 13), asB (cellAt v 14), asI (cellAt v 15), asB (cellAt v 16), asI (cellAt v 17), asL (cellAt v 18), asL (cellAt v 19), asI (cellAt v 20), asI (cellAt v 21), asI (cellAt v 22), asI (cellAt v 23), asL (cellAt v 24), asL (cellAt v 25)⟩
noncomputable abbrev κac := tbl [(19, sameM_s)]
theorem okac : KOk Try.prog κac := tbl_cons sameM_k ok0
noncomputable def actI (xs ys : List SV) (n n' i : Int) : Bool := sameI xs ys i && decide (n = xs.length) && decide (n' = xs.length) && xs.all (fun v => sizeM (msgAt v))
noncomputable def actL : CSumm
  | [.qs 0 27 0 n, .qs 1 27 0 n', .int .i64 i], [(0, .seq 57 xs), (1, .seq 57 ys)] => .ite (actI xs ys n n' i) (.ret (.tup [.int .i64 2]) []) .fail
  | _, _ => .fail
def actM : List SV → HpL → Nat
  | [.qs 0 27 0 n, .qs 1 27 0 _, .int .i64 i], _ => ((n : Int) - i).toNat
  | _, _ => 0
noncomputable def body18 : Code := Try.f18.body.getD .skip
noncomputable def c18 : Code := (loopAt 4 body18).getD .skip
noncomputable def e18 : LEnt := { ins := [0, 1, 5], outs := [], keep := [], size := 55, code := c18, s := actL }
noncomputable abbrev κaco := openT Try.prog κac 300 5
noncomputable abbrev ιac : Nat → Bool := fun g => inl κac g && hasBody Try.prog g
theorem round18 (N n n' : Nat) (xs ys : List SV) (i : Int) : loopOnce Try.prog κaco ιac (ltab []) true 300 e18 { e18 with s := boundT actM actL N } c18 [.qs 0 27 0 n, .qs 1 27 0 n', .int .i64 i] [(0, .seq 57 xs), (1, .seq 57 ys)] =
  bif decide (i < (n : Int)) then
    bif inB i n then bif decide ((0 + i.toNat) < xs.length) then bif inB i n' then bif decide ((0 + i.toNat) < ys.length) then
    bif asI (cellAt (xs.getD (0 + i.toNat) .junk) 0) != asI (cellAt (ys.getD (0 + i.toNat) .junk) 0) then .ret (.tup [.int .i64 1]) [] else
    bif inB i n then bif decide ((0 + i.toNat) < xs.length) then bif inB i n' then bif decide ((0 + i.toNat) < ys.length) then
    bif asI (cellAt (xs.getD (0 + i.toNat) .junk) 26) != asI (cellAt (ys.getD (0 + i.toNat) .junk) 26) then .ret (.tup [.int .i64 1]) [] else
    bif inB i n then bif decide ((0 + i.toNat) < xs.length) then bif inB i n' then bif decide ((0 + i.toNat) < ys.length) then
    bif eqV (msgAt (xs.getD (0 + i.toNat) .junk)).v (msgAt (ys.getD (0 + i.toNat) .junk)).v && isM (msgAt (xs.getD (0 + i.toNat) .junk)).v then
      bif Nat.blt ((n : Int) - w64 (i + 1)).toNat N then bif actI xs ys n n' (w64 (i + 1)) then .ret (.tup [.int .i64 2]) [] else .fail else .fail
    else .fail
    else .fail else .fail else .fail else .fail else .fail else .fail else .fail else .fail else .fail else .fail else .fail else .fail
  else .ret (.tup [.int .i64 2]) [] := by kernel_rfl
theorem same18_valid : ValidL Try.prog e18 := loop_valid (κ := κaco) (ι := ιac) (T := ltab []) (sp := true) (fuel := 300) (c := c18) (μ := actM) (openT_ok noNumTry mixTry okac 300 5) mixTry ltab_nil (show fillC (ltab []) c18 = c18 by kernel_rfl) (by
  intro N args H r hb hr
  have hr' : crun (actL args H) = some r := hr
  unfold actL at hr'
  split at hr'
  · rename_i n n' i xs ys
    rw [crun_ite] at hr'
    cases hc : actI xs ys n n' i with
    | false => rw [hc] at hr'; cases hr'
    | true =>
      rw [hc, cond_true] at hr'
      have hc' := hc
      simp only [actI, Bool.and_eq_true, decide_eq_true_eq] at hc'
      obtain ⟨⟨⟨hs, hn⟩, hn'⟩, ha⟩ := hc'
      obtain ⟨rfl, h0, h1, h2⟩ := sameI_iff.1 hs
      rw [← hr']
      refine (congrArg crun (round18 N n n' xs xs i)).trans ?_
      have hb' : ((n : Int) - i).toNat < N + 1 := by
        have : Nat.blt ((n : Int) - i).toNat (N + 1) = true := hb
        rwa [Nat.blt_eq] at this
      by_cases hlt : i < xs.length
      · have w1 : w64 (i + 1) = i + 1 := w64_id (by omega) (by omega)
        have hin : inB i n = true := by unfold inB; simp; omega
        have hin' : inB i n' = true := by unfold inB; simp; omega
        have hbb : Nat.blt ((n : Int) - (i + 1)).toNat N = true := by rw [Nat.blt_eq]; omega
        have hmem : xs.getD (0 + i.toNat) .junk ∈ xs := by
          have hi : 0 + i.toNat < xs.length := by omega
          rw [List.getD_eq_getElem?_getD, List.getElem?_eq_getElem hi]
          exact List.getElem_mem hi
        have hsz := List.all_eq_true.1 ha _ hmem
        have him : isM (msgAt (xs.getD (0 + i.toNat) .junk)).v = true := isM_iff.2 ⟨_, rfl, hsz⟩
        have hnx : actI xs xs n n' (i + 1) = true := by
          simp only [actI, Bool.and_eq_true, decide_eq_true_eq]
          exact ⟨⟨⟨sameI_iff.2 ⟨rfl, by omega, by omega, h2⟩, hn⟩, hn'⟩, ha⟩
        rw [show decide (i < (n : Int)) = true by simp; omega, hin, hin', show decide (0 + i.toNat < xs.length) = true by simp; omega, him, eqV_refl, w1, hbb, hnx]
        simp only [bne_self_eq_false, cond_true, cond_false, Bool.and_self]
      · rw [show decide (i < (n : Int)) = false by simp; omega]
        rfl
  · cases hr')
noncomputable abbrev T18 : LTab := ltab [("s", e18)]
noncomputable def m18 : Code := markC [(4, "s")] body18
theorem fill18 : Try.f18.body = some (fillC T18 m18) := by kernel_rfl
noncomputable def acts_s : CSumm
  | [.qs 0 27 0 n, .qs 1 27 0 n'], [(0, .seq 57 xs), (1, .seq 57 ys)] => .ite (actI xs ys n n' 0) (.ret (.bool true) []) .fail
  | _, _ => .fail
noncomputable abbrev acts_b : CSumm := bodyCL Try.prog κaco ιac T18 true 300 Try.f18 m18
theorem acts_t (n n' : Nat) (xs ys : List SV) : acts_b [.qs 0 27 0 n, .qs 1 27 0 n'] [(0, .seq 57 xs), (1, .seq 57 ys)] =
  bif (n : Int) != (n' : Int) then .ret (.bool false) [] else bif actI xs ys n n' 0 then .ret (.bool true) [] else .fail := by kernel_rfl
theorem acts_k : Known Try.prog 18 acts_s := (show Known Try.prog 18 acts_b from ⟨⟨Try.f18, Try.func18, noNum_at noNumTry Try.func18, rfl⟩, bodyL_valid (openT_ok noNumTry mixTry okac 300 5) mixTry (ltab_cons same18_valid ltab_nil) Try.func18 fill18⟩).weak (by
  intro args H v ups h
  unfold acts_s at h
  split at h
  · rename_i n n' xs ys
    rw [crun_ite] at h
    cases hc : actI xs ys n n' 0 with
    | false => rw [hc] at h; cases h
    | true =>
      rw [hc] at h
      rw [← h]
      refine (congrArg crun (acts_t n n' xs ys)).trans ?_
      have hc' := hc
      simp only [actI, Bool.and_eq_true, decide_eq_true_eq] at hc'
      rw [show ((n : Int) != (n' : Int)) = false by simp; omega, hc]
      rfl
  · cases h)
end Go.Proofs.Ytbeolnccdhjjeaa
/- Sessions: bounds of lists of events. -/
namespace Go.Proofs.Ytbeolnccdhjjeaa
open Go.Am
set_option maxRecDepth 100000
def allL : Nat → List SV → Int → Bool
  | 0, _, _ => true
  | n + 1, es, i => bif lightM (msgAt (es.getD i.toNat .junk)) then allL n es (i + 1) else false
def ligI (es : List SV) (i : Int) : Bool := decide (0 ≤ i) && decide (i ≤ es.length) && decide (es.length ≤ 9223372036854775807)
def ligL : CSumm
  | [.psl 52 es, .bool b, .int .i64 i], [] => .ite (ligI es i) (.ite (allL (leftL es i) es i) (.ret (.tup [.int .i64 2, .psl 52 es, .bool b]) []) (.ret (.tup [.int .i64 1, .psl 52 es, .bool false]) [])) .fail
  | _, _ => .fail
def ligM : List SV → HpL → Nat
  | [.psl _ es, .bool _, .int .i64 i], _ => leftL es i
  | _, _ => 0
noncomputable def body10 : Code := Try.f10.body.getD .skip
noncomputable def c10 : Code := (loopAt 2 body10).getD .skip
noncomputable def e10 : LEnt := { ins := [0, 2, 3], outs := [0, 2], keep := [], size := 20, code := c10, s := ligL }
abbrev κl := tbl [(26, lightM_s)]
theorem okl : KOk Try.prog κl := tbl_cons lightM_k ok0
noncomputable abbrev κlo := openT Try.prog κl 300 5
noncomputable abbrev ιl : Nat → Bool := fun g => inl κl g && hasBody Try.prog g
theorem round10 (N : Nat) (es : List SV) (b : Bool) (i : Int) : loopOnce Try.prog κlo ιl (ltab []) true 300 e10 { e10 with s := boundT ligM ligL N } c10 [.psl 52 es, .bool b, .int .i64 i] [] =
  bif decide (i < (es.length : Int)) then bif inB i es.length then bif !lightM (msgAt (es.getD i.toNat .junk)) then .ret (.tup [.int .i64 1, .psl 52 es, .bool false]) [] else
    bif Nat.blt (leftL es (w64 (i + 1))) N then bif ligI es (w64 (i + 1)) then bif allL (leftL es (w64 (i + 1))) es (w64 (i + 1)) then .ret (.tup [.int .i64 2, .psl 52 es, .bool b]) [] else .ret (.tup [.int .i64 1, .psl 52 es, .bool false]) [] else .fail else .fail
  else .fail else .ret (.tup [.int .i64 2, .psl 52 es, .bool b]) [] := by kernel_rfl
theorem ligI_iff {es : List SV} {i : Int} : ligI es i = true ↔ 0 ≤ i ∧ i ≤ es.length ∧ es.length ≤ 9223372036854775807 := by
  simp only [ligI, Bool.and_eq_true, decide_eq_true_eq, and_assoc]
theorem light_valid : ValidL Try.prog e10 := loop_valid (κ := κlo) (ι := ιl) (T := ltab []) (sp := true) (fuel := 300) (c := c10) (μ := ligM) (openT_ok noNumTry mixTry okl 300 5) mixTry ltab_nil (show fillC (ltab []) c10 = c10 by kernel_rfl) (by
  intro N args H r hb hr
  have hr' : crun (ligL args H) = some r := hr
  unfold ligL at hr'
  split at hr'
  · rename_i es b i
    rw [crun_ite, crun_ite] at hr'
    cases hc : ligI es i with
    | false => rw [hc] at hr'; cases hr'
    | true =>
      rw [hc, cond_true] at hr'
      obtain ⟨h0, h1, h2⟩ := ligI_iff.1 hc
      rw [← hr']
      refine (congrArg crun (round10 N es b i)).trans ?_
      have hb' : leftL es i < N + 1 := by
        have : Nat.blt (leftL es i) (N + 1) = true := hb
        rwa [Nat.blt_eq] at this
      by_cases hlt : i < es.length
      · obtain ⟨m, hm⟩ : ∃ m, leftL es i = m + 1 := ⟨leftL es i - 1, by unfold leftL; omega⟩
        have hm' : leftL es (i + 1) = m := by unfold leftL at hm ⊢; omega
        have w1 : w64 (i + 1) = i + 1 := w64_id (by omega) (by omega)
        have hin : inB i es.length = true := by unfold inB; simp; omega
        have hbb : Nat.blt (leftL es (i + 1)) N = true := by rw [Nat.blt_eq]; omega
        have ha : allL (leftL es i) es i = bif lightM (msgAt (es.getD i.toNat .junk)) then allL m es (i + 1) else false := by rw [hm]; rfl
        rw [decide_eq_true hlt, hin, w1, hbb, ligI_iff.2 ⟨by omega, by omega, h2⟩, ha, hm']
        cases lightM (msgAt (es.getD i.toNat .junk)) with
        | false => rfl
        | true =>
          simp only [cond_true, Bool.not_true, cond_false]
          cases allL m es (i + 1) <;> rfl
      · have hz : leftL es i = 0 := by unfold leftL; omega
        rw [show decide (i < (es.length : Int)) = false by simp; omega, hz]
        rfl
  · cases hr')
noncomputable abbrev T10 : LTab := ltab [("s", e10)]
noncomputable def m10 : Code := markC [(2, "s")] body10
theorem fill10 : Try.f10.body = some (fillC T10 m10) := by kernel_rfl
def evsB (es : List SV) : Bool := bif allL (leftL es 0) es 0 then decide ((es.length : Int) ≤ 60) else false
def evs_s : CSumm
  | [.psl 52 es], [] => .ite (decide (es.length ≤ 9223372036854775807)) (.ret (.bool (evsB es)) []) .fail
  | _, _ => .fail
noncomputable abbrev evs_b : CSumm := bodyCL Try.prog κlo ιl T10 true 300 Try.f10 m10
theorem evs_t (es : List SV) : evs_b [.psl 52 es] [] = bif ligI es 0 then bif allL (leftL es 0) es 0 then .ret (.bool (decide ((es.length : Int) ≤ 60))) [] else .ret (.bool false) [] else .fail := by kernel_rfl
theorem evs_k : Known Try.prog 10 evs_s := (show Known Try.prog 10 evs_b from ⟨⟨Try.f10, Try.func10, noNum_at noNumTry Try.func10, rfl⟩, bodyL_valid (openT_ok noNumTry mixTry okl 300 5) mixTry (ltab_cons light_valid ltab_nil) Try.func10 fill10⟩).weak (by
  intro args H v ups h
  unfold evs_s at h
  split at h
  · rename_i es
    rw [crun_ite] at h
    cases hc : decide (es.length ≤ 9223372036854775807) with
    | false => rw [hc] at h; cases h
    | true =>
      rw [hc] at h
      simp only [decide_eq_true_eq] at hc
      rw [← h]
      refine (congrArg crun (evs_t es)).trans ?_
      rw [ligI_iff.2 ⟨by omega, by omega, hc⟩]
      unfold evsB
      cases allL (leftL es 0) es 0 <;> rfl
  · cases h)
theorem allL_at : ∀ (n : Nat) (es : List SV) (i : Int), allL n es i = true → 0 ≤ i → ∀ j : Int, i ≤ j → j < i + n → lightM (msgAt (es.getD j.toNat .junk)) = true
  | 0, _, _, _, _, j, h1, h2 => by omega
  | n + 1, es, i, h, h0, j, h1, h2 => by
    simp only [allL] at h
    cases hl : lightM (msgAt (es.getD i.toNat .junk)) with
    | false => rw [hl] at h; cases h
    | true =>
      rw [hl, cond_true] at h
      by_cases hj : j = i
      · subst hj; exact hl
      · exact allL_at n es (i + 1) h (by omega) j (by omega) (by omega)
theorem evs_at {es : List SV} (h : evsB es = true) {j : Int} (h0 : 0 ≤ j) (h1 : j < es.length) : lightM (msgAt (es.getD j.toNat .junk)) = true := by
  unfold evsB at h
  cases ha : allL (leftL es 0) es 0 with
  | false => rw [ha] at h; cases h
  | true => exact allL_at _ es 0 ha (by omega) j h0 (by unfold leftL; omega)
theorem evs_len {es : List SV} (h : evsB es = true) : es.length ≤ 60 := by
  unfold evsB at h
  cases ha : allL (leftL es 0) es 0 with
  | false => rw [ha] at h; cases h
  | true => rw [ha, cond_true, decide_eq_true_eq] at h; omega
end Go.Proofs.Ytbeolnccdhjjeaa
