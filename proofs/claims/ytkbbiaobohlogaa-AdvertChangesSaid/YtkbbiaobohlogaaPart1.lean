/- What is advertised: the program. -/
import Derived.Test.YtkbbiaobohlogaaMachine7
import Derived.KernelRfl
import Derived.Test.YtkbbiaobohlogaaRows
import Derived.Test.YtkbbiaobohlogaaMachine8
set_option linter.unusedVariables false
set_option linter.unusedSimpArgs false
namespace Go.Proofs.Ytkbbiaobohlogaa
open Go.Am
set_option maxRecDepth 100000
theorem noNumTry : noNum Try.prog := by unfold noNum; kernel_rfl
theorem mixTry : Try.prog.follows .mixedOrders = true := by kernel_rfl
theorem ok0 : KOk Try.prog (tbl []) := tbl_nil
noncomputable abbrev opn (T : Nat → Option CSumm) (fn : Func) : CSumm := bodyC Try.prog (openT Try.prog T 300 5) (fun g => inl T g && hasBody Try.prog g) true 300 fn
theorem openKnown {T : Nat → Option CSumm} (hT : KOk Try.prog T) {f : Nat} {fn : Func} (hf : Try.prog.funcs[f]? = some fn) (hb : fn.body.isNone = false) : Known Try.prog f (opn T fn) :=
 known_of_bodyC noNumTry mixTry (openT_ok noNumTry mixTry hT 300 5) hf hb (fun _ _ _ _ h => h)
theorem crun_ite (b : Bool) (x y : CTree) : crun (.ite b x y) = bif b then crun x else crun y := by cases b <;> rfl
theorem crun_cond (b : Bool) (x y : CTree) : crun (bif b then x else y) = bif b then crun x else crun y := by cases b <;> rfl
theorem w64_id {n : Int} (h1 : -9223372036854775808 ≤ n) (h2 : n ≤ 9223372036854775807) : IntKind.i64.wrap n = n := by
 simp [IntKind.wrap, IntKind.bits, IntKind.signed]; omega
noncomputable def dec (p : Prop) : Bool := (Classical.propDecidable p).decide
theorem dec_iff {p : Prop} : dec p = true ↔ p := by unfold dec; exact @decide_eq_true_iff _ (Classical.propDecidable _)
abbrev w64 (n : Int) : Int := IntKind.i64.wrap n
end Go.Proofs.Ytkbbiaobohlogaa
/- Copies of lists. -/
namespace Go.Proofs.Ytkbbiaobohlogaa
open Go.Am
set_option maxRecDepth 100000
theorem bytes33 : Try.prog.types[33].bytes = 4 := by kernel_rfl
theorem bytes35 : Try.prog.types[35].bytes = 4 := by kernel_rfl
theorem bytes80 : Try.prog.types[80].bytes = 8 := by kernel_rfl
theorem grow_run {b n : Nat} {es : List SV} {v : SV} {u : List (Nat × Option Chunk)} {t : CTree} (h : bndE b es = true) (ht : t = bif decide (0 + es.length ≤ 9223372036854775807) && decide ((0 + es.length) * n ≤ 140737488355328) then .ret v u else .fail) (hb : n = b) : crun t = some (v, u) := by
 subst hb
 rw [ht]
 unfold bndE at h
 rw [Nat.zero_add, h]
 rfl
noncomputable abbrev b0 (fn : Func) : CSumm := bodyS Try.prog (tbl []) fn
theorem valid0 {f : FuncId} {fn : Func} (hf : Try.prog.funcs[f]? = some fn) : ValidC Try.prog f (b0 fn) := body_valid ok0 mixTry hf
theorem cl41_k : Known Try.prog 41 (cloneS 33 4) := known_clone (sz := 1) noNumTry mixTry Try.func41 rfl (valid0 Try.func41) (by
 have h : b0 Try.f41 [.nils] [] = .ret .nils [] := by kernel_rfl
 rw [h]; rfl) (fun es h => grow_run h (by kernel_rfl) bytes33)
theorem cl42_k : Known Try.prog 42 (cloneS 35 4) := known_clone (sz := 1) noNumTry mixTry Try.func42 rfl (valid0 Try.func42) (by
 have h : b0 Try.f42 [.nils] [] = .ret .nils [] := by kernel_rfl
 rw [h]; rfl) (fun es h => grow_run h (by kernel_rfl) bytes35)
theorem cl43_k : Known Try.prog 43 (cloneS 80 8) := known_clone (sz := 8) noNumTry mixTry Try.func43 rfl (valid0 Try.func43) (by
 have h : b0 Try.f43 [.nils] [] = .ret .nils [] := by kernel_rfl
 rw [h]; rfl) (fun es h => grow_run h (by kernel_rfl) bytes80)
theorem ow46_k : Known Try.prog 46 (cloneS 33 4) := known_own (sz := 1) noNumTry mixTry Try.func46 rfl (valid0 Try.func46) (fun es h => grow_run h (by kernel_rfl) bytes33)
theorem ow47_k : Known Try.prog 47 (cloneS 35 4) := known_own (sz := 1) noNumTry mixTry Try.func47 rfl (valid0 Try.func47) (fun es h => grow_run h (by kernel_rfl) bytes35)
theorem ow48_k : Known Try.prog 48 (cloneS 80 8) := known_own (sz := 8) noNumTry mixTry Try.func48 rfl (valid0 Try.func48) (fun es h => grow_run h (by kernel_rfl) bytes80)
end Go.Proofs.Ytkbbiaobohlogaa
/- Lists are the same. -/
namespace Go.Proofs.Ytkbbiaobohlogaa
open Go.Am
set_option maxRecDepth 100000
end Go.Proofs.Ytkbbiaobohlogaa
/- What is advertised: attributes, routes; copies of them; what is reflected. -/
namespace Go.Proofs.Ytkbbiaobohlogaa
open Go.Am
set_option maxRecDepth 100000
structure At where
 (ori nx med prf orr tk tl tr tg : Int) (hm hp ho : Bool) (path cl cm : List SV)
def At.cs (d : At) : List SV := [.int .i64 d.ori, .psl 33 d.path, .int .u32 d.nx, .bool d.hm, .int .u32 d.med, .bool d.hp, .int .u32 d.prf, .bool d.ho, .int .u32 d.orr, .psl 35 d.cl, .psl 80 d.cm, .int .i64 d.tk, .int .u32 d.tl, .int .u32 d.tr, .int .u32 d.tg]
abbrev At.v (d : At) : SV := .agg d.cs
structure Rt where
 (a : Nat → Int) (hb : Bool) (d : At) (p : Int) (st : Bool)
def Rt.cs (r : Rt) : List SV := [.int .i64 (r.a 0), .int .u64 (r.a 1), .int .u8 (r.a 2), .int .u8 (r.a 3), .int .u8 (r.a 4), .int .u8 (r.a 5), .int .u8 (r.a 6), .int .u8 (r.a 7), .int .u8 (r.a 8), .int .u8 (r.a 9), .int .u8 (r.a 10), .int .u8 (r.a 11), .int .u32 (r.a 12), .int .u64 (r.a 13), .int .u32 (r.a 14), .bool r.hb, .int .u32 (r.a 16), .int .i64 (r.a 17), .int .u32 (r.a 18), .int .u32 (r.a 19), .int .u32 (r.a 20),
 .int .i64 r.d.ori, .psl 33 r.d.path, .int .u32 r.d.nx, .bool r.d.hm, .int .u32 r.d.med, .bool r.d.hp, .int .u32 r.d.prf, .bool r.d.ho, .int .u32 r.d.orr, .psl 35 r.d.cl, .psl 80 r.d.cm, .int .i64 r.d.tk, .int .u32 r.d.tl, .int .u32 r.d.tr, .int .u32 r.d.tg, .int .u32 r.p, .bool r.st]
def gI (cs : List SV) (i : Nat) : Int := asI (cs.getD i .junk)
def gB (cs : List SV) (i : Nat) : Bool := asB (cs.getD i .junk)
def gL (cs : List SV) (i : Nat) : List SV := asL (cs.getD i .junk)
def atAt (cs : List SV) (o : Nat) : At := ⟨gI cs o, gI cs (o + 2), gI cs (o + 4), gI cs (o + 6), gI cs (o + 8), gI cs (o + 11), gI cs (o + 12), gI cs (o + 13), gI cs (o + 14), gB cs (o + 3), gB cs (o + 5), gB cs (o + 7), gL cs (o + 1), gL cs (o + 9), gL cs (o + 10)⟩
def rOf (cs : List SV) : Rt := ⟨gI cs, gB cs 15, atAt cs 21, gI cs 36, gB cs 37⟩
def aOf (cs : List SV) : At := atAt cs 0
theorem rOf_cs (r : Rt) : (rOf r.cs).cs = r.cs := rfl
def aSz (d : At) : Prop := d.path.length ≤ 1000 ∧ d.cl.length ≤ 1000 ∧ d.cm.length ≤ 1000
theorem bnd_ok {l : List SV} (h : l.length ≤ 1000) : bndE 4 l = true ∧ bndE 8 l = true := by
 unfold bndE
 simp only [Bool.and_eq_true, decide_eq_true_eq]
 omega
noncomputable abbrev κc := tbl [(41, cloneS 33 4), (42, cloneS 35 4), (43, cloneS 80 8)]
theorem cOk : KOk Try.prog κc := tbl_cons cl41_k (tbl_cons cl42_k (tbl_cons cl43_k ok0))
noncomputable abbrev κo := tbl [(46, cloneS 33 4), (47, cloneS 35 4), (48, cloneS 80 8)]
theorem oOk : KOk Try.prog κo := tbl_cons ow46_k (tbl_cons ow47_k (tbl_cons ow48_k ok0))
def cp3 (d : At) (K : CTree) : CTree := bif bndE 4 d.path then bif bndE 4 d.cl then bif bndE 8 d.cm then K else .fail else .fail else .fail
theorem cp3_ok {d : At} (h : aSz d) (K : CTree) : cp3 d K = K := by
 unfold cp3
 rw [(bnd_ok h.1).1, (bnd_ok h.2.1).1, (bnd_ok h.2.2).2]
 rfl
theorem clone_t (d : At) : opn κc Try.f22 [d.v] [] = cp3 d (.ret d.v []) := by kernel_rfl
theorem ownr_t (r : Rt) : opn κo Try.f10 [.agg r.cs] [] = cp3 r.d (.ret (.agg r.cs) []) := by kernel_rfl
noncomputable def ownr_s : CSumm := fun args H => match args, H with
 | [.agg cs], [] => .ite (dec (cs = (rOf cs).cs ∧ aSz (rOf cs).d)) (.ret (.agg cs) []) .fail
 | _, _ => .fail
theorem ownr_k : Known Try.prog 10 ownr_s := (openKnown oOk Try.func10 rfl).weak (by
 intro args H v ups h
 unfold ownr_s at h
 split at h
 · rename_i cs
   rw [crun_ite] at h
   cases hc : dec (cs = (rOf cs).cs ∧ aSz (rOf cs).d) with
   | false => rw [hc] at h; cases h
   | true =>
    rw [hc, cond_true] at h
    obtain ⟨h1, h2⟩ := dec_iff.1 hc
    generalize rOf cs = r at h1 h2
    subst h1
    rw [← h]
    exact (congrArg crun (ownr_t r)).trans (by rw [cp3_ok h2])
 · cases h)
theorem light_t (r : Rt) : opn (tbl []) Try.f13 [.agg r.cs] [] = .ret (.bool (bif (bif decide ((r.d.path.length : Int) ≤ 40) then decide ((r.d.cl.length : Int) ≤ 20) else false) then decide ((r.d.cm.length : Int) ≤ 80) else false)) [] := by kernel_rfl
end Go.Proofs.Ytkbbiaobohlogaa
/- What is advertised: keys of routes; comparisons. -/
namespace Go.Proofs.Ytkbbiaobohlogaa
open Go.Am
set_option maxRecDepth 100000
structure Nk where
 (a : Nat → Int) (hb : Bool)
def Nk.cs (r : Nk) : List SV := [.int .i64 (r.a 0), .int .u64 (r.a 1), .int .u8 (r.a 2), .int .u8 (r.a 3), .int .u8 (r.a 4), .int .u8 (r.a 5), .int .u8 (r.a 6), .int .u8 (r.a 7), .int .u8 (r.a 8), .int .u8 (r.a 9), .int .u8 (r.a 10), .int .u8 (r.a 11), .int .u32 (r.a 12), .int .u64 (r.a 13), .int .u32 (r.a 14), .bool r.hb, .int .u32 (r.a 16), .int .i64 (r.a 17), .int .u32 (r.a 18), .int .u32 (r.a 19), .int .u32 (r.a 20)]
def nOf (cs : List SV) : Nk := ⟨gI cs, gB cs 15⟩
theorem nOf_cs (n : Nk) : (nOf n.cs).cs = n.cs := rfl
def Rt.n (r : Rt) : Nk := ⟨r.a, r.hb⟩
def kC (z g : Bool) (n : Nk) : Nk := ⟨fun i => bif Nat.beq i 19 || Nat.beq i 20 then 0 else bif Nat.ble 2 i && (Nat.ble i 11 && z) then 0 else bif Nat.beq i 18 && g then 0 else n.a i, n.hb⟩
def keyN (n : Nk) : Nk := kC (n.a 0 == 5 || n.a 0 == 2) (n.a 0 == 5) n
def rN (n : Nk) : CTree := .ret (.agg n.cs) []
theorem key34_t (n : Nk) : opn (tbl []) Try.f34 [.agg n.cs] [] = bif n.a 0 == 5 then rN (kC true true n) else bif n.a 0 == 2 then rN (kC true false n) else rN (kC false false n) := by kernel_rfl
theorem key24_t (n : Nk) : opn (tbl []) Try.f24 [.agg n.cs] [] = bif (bif n.a 0 == 2 then true else n.a 0 == 5) then (bif n.a 0 == 5 then rN (kC true true n) else rN (kC true false n)) else (bif n.a 0 == 5 then rN (kC false true n) else rN (kC false false n)) := by kernel_rfl
noncomputable def key_s : CSumm := fun args H => match args, H with
 | [.agg cs], [] => .ite (dec (cs = (nOf cs).cs)) (.ret (.agg (keyN (nOf cs)).cs) []) .fail
 | _, _ => .fail
theorem key34_k : Known Try.prog 34 key_s := (openKnown ok0 Try.func34 rfl).weak (by
 intro args H v ups h
 unfold key_s at h
 split at h
 · rename_i cs
   rw [crun_ite] at h
   cases hc : dec (cs = (nOf cs).cs) with
   | false => rw [hc] at h; cases h
   | true =>
    rw [hc, cond_true] at h
    have h1 := dec_iff.1 hc
    generalize nOf cs = n at h1 h
    subst h1
    refine (congrArg crun (key34_t n)).trans ?_
    unfold keyN at h
    cases h5 : n.a 0 == 5 <;> cases h2 : n.a 0 == 2 <;> rw [h5, h2] at h <;> exact h
 · cases h)
theorem key24_k : Known Try.prog 24 key_s := (openKnown ok0 Try.func24 rfl).weak (by
 intro args H v ups h
 unfold key_s at h
 split at h
 · rename_i cs
   rw [crun_ite] at h
   cases hc : dec (cs = (nOf cs).cs) with
   | false => rw [hc] at h; cases h
   | true =>
    rw [hc, cond_true] at h
    have h1 := dec_iff.1 hc
    generalize nOf cs = n at h1 h
    subst h1
    refine (congrArg crun (key24_t n)).trans ?_
    unfold keyN at h
    cases h5 : n.a 0 == 5 <;> cases h2 : n.a 0 == 2 <;> rw [h5, h2] at h <;> exact h
 · cases h)
/- Comparisons of numbers. -/
def cI (x y : Int) : Int := bif decide (x < y) then -1 else bif decide (x > y) then 1 else 0
def cT (x y : Int) : CTree := bif decide (x < y) then .ret (.int .i64 (-1)) [] else bif decide (x > y) then .ret (.int .i64 1) [] else .ret (.int .i64 0) []
theorem cT_run (x y : Int) : crun (cT x y) = some (.int .i64 (cI x y), []) := by
 unfold cT cI
 cases decide (x < y) <;> cases decide (x > y) <;> rfl
def cmpS (k : IntKind) : CSumm := fun args H => match args, H with
 | [.int k1 x, .int k2 y], [] => bif ikEq k1 k && ikEq k2 k then .ret (.int .i64 (cI x y)) [] else .fail
 | _, _ => .fail
theorem cmp_weak {f : FuncId} {s : CSumm} (k : IntKind) (h0 : Known Try.prog f s) (ht : ∀ x y, crun (s [.int k x, .int k y] []) = some (.int .i64 (cI x y), [])) : Known Try.prog f (cmpS k) := h0.weak (by
 intro args H v ups h
 unfold cmpS at h
 split at h
 · rename_i k1 x k2 y
   rw [crun_cond] at h
   cases hk : ikEq k1 k && ikEq k2 k with
   | false => rw [hk] at h; cases h
   | true =>
    rw [hk, cond_true] at h
    simp only [Bool.and_eq_true] at hk
    have e1 := ikEq_eq hk.1
    have e2 := ikEq_eq hk.2
    subst e1; subst e2
    rw [ht]; exact h
 · cases h)
theorem c25_t (x y : Int) : opn (tbl []) Try.f25 [.int .u64 x, .int .u64 y] [] = cT x y := by kernel_rfl
theorem c45_t (x y : Int) : opn (tbl []) Try.f45 [.int .i64 x, .int .i64 y] [] = cT x y := by kernel_rfl
theorem c25_k : Known Try.prog 25 (cmpS .u64) := cmp_weak .u64 (openKnown ok0 Try.func25 rfl) (fun x y => (congrArg crun (c25_t x y)).trans (cT_run x y))
theorem c45_k : Known Try.prog 45 (cmpS .i64) := cmp_weak .i64 (openKnown ok0 Try.func45 rfl) (fun x y => (congrArg crun (c45_t x y)).trans (cT_run x y))
def cTn (x y : Int) : CTree := bif x != x then (bif y != y then .ret (.int .i64 0) [] else .ret (.int .i64 (-1)) []) else bif y != y then .ret (.int .i64 1) [] else cT x y
theorem cTn_run (x y : Int) : crun (cTn x y) = some (.int .i64 (cI x y), []) := by
 unfold cTn
 rw [show (x != x) = false by simp, show (y != y) = false by simp]
 exact cT_run x y
theorem c54_t (x y : Int) : opn (tbl []) Try.f54 [.int .i64 x, .int .i64 y] [] = cTn x y := by kernel_rfl
theorem c55_t (x y : Int) : opn (tbl []) Try.f55 [.int .u64 x, .int .u64 y] [] = cTn x y := by kernel_rfl
theorem c57_t (x y : Int) : opn (tbl []) Try.f57 [.int .u32 x, .int .u32 y] [] = cTn x y := by kernel_rfl
theorem c58_t (x y : Int) : opn (tbl []) Try.f58 [.int .u64 x, .int .u64 y] [] = cTn x y := by kernel_rfl
theorem c60_t (x y : Int) : opn (tbl []) Try.f60 [.int .u32 x, .int .u32 y] [] = cTn x y := by kernel_rfl
theorem c68_t (x y : Int) : opn (tbl []) Try.f68 [.int .u8 x, .int .u8 y] [] = cTn x y := by kernel_rfl
theorem c54_k : Known Try.prog 54 (cmpS .i64) := cmp_weak .i64 (openKnown ok0 Try.func54 rfl) (fun x y => (congrArg crun (c54_t x y)).trans (cTn_run x y))
theorem c55_k : Known Try.prog 55 (cmpS .u64) := cmp_weak .u64 (openKnown ok0 Try.func55 rfl) (fun x y => (congrArg crun (c55_t x y)).trans (cTn_run x y))
theorem c57_k : Known Try.prog 57 (cmpS .u32) := cmp_weak .u32 (openKnown ok0 Try.func57 rfl) (fun x y => (congrArg crun (c57_t x y)).trans (cTn_run x y))
theorem c58_k : Known Try.prog 58 (cmpS .u64) := cmp_weak .u64 (openKnown ok0 Try.func58 rfl) (fun x y => (congrArg crun (c58_t x y)).trans (cTn_run x y))
theorem c60_k : Known Try.prog 60 (cmpS .u32) := cmp_weak .u32 (openKnown ok0 Try.func60 rfl) (fun x y => (congrArg crun (c60_t x y)).trans (cTn_run x y))
theorem c68_k : Known Try.prog 68 (cmpS .u8) := cmp_weak .u8 (openKnown ok0 Try.func68 rfl) (fun x y => (congrArg crun (c68_t x y)).trans (cTn_run x y))
def b2i (b : Bool) : Int := bif b then 1 else 0
theorem o59_t (x y : Bool) : opn (tbl []) Try.f59 [.bool x, .bool y] [] = bif x == y then .ret (.int .i64 0) [] else bif y then .ret (.int .i64 (-1)) [] else .ret (.int .i64 1) [] := by kernel_rfl
def ord_s : CSumm := fun args H => match args, H with
 | [.bool x, .bool y], [] => .ret (.int .i64 (cI (b2i x) (b2i y))) []
 | _, _ => .fail
theorem o59_k : Known Try.prog 59 ord_s := (openKnown ok0 Try.func59 rfl).weak (by
 intro args H v ups h
 unfold ord_s at h
 split at h
 · rename_i x y
   refine (congrArg crun (o59_t x y)).trans ?_
   cases x <;> cases y <;> exact h
 · cases h)
theorem n27_t (x : Bool) : opn (tbl []) Try.f27 [.bool x] [] = bif x then .ret (.int .u64 1) [] else .ret (.int .u64 0) [] := by kernel_rfl
def num_s : CSumm := fun args H => match args, H with
 | [.bool x], [] => .ret (.int .u64 (b2i x)) []
 | _, _ => .fail
theorem n27_k : Known Try.prog 27 num_s := (openKnown ok0 Try.func27 rfl).weak (by
 intro args H v ups h
 unfold num_s at h
 split at h
 · rename_i x
   refine (congrArg crun (n27_t x)).trans ?_
   cases x <;> exact h
 · cases h)
def orI : List Int → Int
 | [] => 0
 | x :: xs => bif x != 0 then x else orI xs
def orT (K : Int → CTree) : List Int → CTree
 | [] => K 0
 | x :: xs => bif x != 0 then K x else orT K xs
theorem orT_run (K : Int → CTree) : ∀ (l : List Int), orT K l = K (orI l)
 | [] => rfl
 | x :: xs => by
  unfold orT orI
  cases x != 0 with
  | true => rfl
  | false => exact orT_run K xs
def iv (x : Int) : SV := .int .i64 x
theorem or53_t (a b c d e f g h i j : Int) : opn (tbl []) Try.f53 [.sl 0 1 0 10] [(0, .cells 3 [iv a, iv b, iv c, iv d, iv e, iv f, iv g, iv h, iv i, iv j])] = orT (fun x => .ret (.int .i64 x) []) [a, b, c, d, e, f, g, h, i, j] := by kernel_rfl
def or_s : CSumm := fun args H => match args, H with
 | [.sl 0 1 0 10], [(0, .cells 3 [.int .i64 a, .int .i64 b, .int .i64 c, .int .i64 d, .int .i64 e, .int .i64 f, .int .i64 g, .int .i64 h, .int .i64 i, .int .i64 j])] => .ret (.int .i64 (orI [a, b, c, d, e, f, g, h, i, j])) []
 | _, _ => .fail
theorem or53_k : Known Try.prog 53 or_s := (openKnown ok0 Try.func53 rfl).weak (by
 intro args H v ups h
 unfold or_s at h
 split at h
 · refine (congrArg crun (or53_t _ _ _ _ _ _ _ _ _ _)).trans ?_
   rw [orT_run]; exact h
 · cases h)
end Go.Proofs.Ytkbbiaobohlogaa
