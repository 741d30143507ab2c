/- What attr.Bytes writes, attr.Read reads. -/
import Derived.Test.YtdgnhaacdpmclaaGreatPart19
import Derived.Test.YtdgnhaacdpmclaaGreatPart15
import Derived.Test.YtdgnhaacdpmclaaGreatMachine7
set_option linter.unusedVariables false
set_option linter.unusedSimpArgs false
namespace Go.Proofs.YtdgnhaacdpmclaaGreat
open Go.Am
set_option maxRecDepth 100000
def rowsB (a : At) (R U : List SV) : List Nat → List SV
 | [] => []
 | k :: ks => putB k a R U ++ rowsB a R U ks
noncomputable def sF (a : At) (R U : List SV) : List Nat → List (Int × Bool) → List (Int × Bool)
 | [], s => s
 | k :: ks, s => sF a R U ks (bif wrB k a R U then stK s (codeR k) else s)
noncomputable def zF (a : At) (R U : List SV) : List Nat → Dz → Dz
 | [], z => z
 | k :: ks, z => zF a R U ks (bif wrB k a R U then gC (codeR k) (valB k a R U) z else z)
noncomputable def dF (a : At) (R U : List SV) : List Nat → Ds → Ds
 | [], d => d
 | k :: ks, d => dF a R U ks (bif wrB k a R U then gD (codeR k) (valB k a R U) d else d)
theorem zF_d (a : At) (R U : List SV) : ∀ (ks : List Nat) (z : Dz), (zF a R U ks z).d = dF a R U ks z.d
 | [], _ => rfl
 | k :: ks, z => by
  rw [zF, dF, zF_d a R U ks]
  cases wrB k a R U <;> rfl
theorem lk_step (s : List (Int × Bool)) (w : Bool) (c' c : Int) : lookB (bif w then stK s c' else s) c = (lookB s c || (w && c == c')) := by
 cases w with
 | false => simp
 | true =>
  show lookB (stK s c') c = _
  rw [show lookB (stK s c') c = bif c == c' then true else lookB s c from lookB_set c' true s c]
  cases c == c' <;> simp
theorem sF_lk (a : At) (R U : List SV) (c : Int) : ∀ (ks : List Nat) (s : List (Int × Bool)), lookB (sF a R U ks s) c = (lookB s c || ks.any (fun r => wrB r a R U && c == codeR r))
 | [], s => by simp [sF]
 | k :: ks, s => by rw [sF, sF_lk a R U c ks, lk_step, List.any_cons, Bool.or_assoc]
theorem rows_read {a : At} {R U es : List SV} (hv : ∀ r, (valB r a R U).length ≤ 65535) (hok : ∀ r, r ≤ 9 → wrB r a R U = true → okC (codeR r) (valB r a R U) = true) : ∀ (ks : List Nat) (pre : List SV) (x : Int) (s : List (Int × Bool)) (z : Dz), es = pre ++ rowsB a R U ks →
  (∀ r ∈ ks, r ≤ 9) → (ks.map codeR).Nodup → (∀ r ∈ ks, lookB s (codeR r) = false) → ∃ y, attK es es.length pre.length x s z = (0, y, sF a R U ks s, zF a R U ks z)
 | [], pre, x, s, z, hes, _, _, _ => by
  have hl : es.length = pre.length := by rw [hes, rowsB, List.append_nil]
  exact ⟨x, by unfold attK; rw [attL_end (by omega)]; rfl⟩
 | k :: ks, pre, x, s, z, hes, h9, hnd, hs => by
  rw [List.map_cons, List.nodup_cons] at hnd
  obtain ⟨y, hy⟩ := att_row (lk := lookB) (st := stK) (es := es) (pre := pre) (post := rowsB a R U ks) (r := k) (a := a) (R := R) (U := U) (h9 k (by simp)) hes (hv k) (x := x) (s := s) (z := z) (hs k (by simp)) (hok k (h9 k (by simp)))
  unfold attK at *
  rw [hy, sF, zF]
  refine rows_read hv hok ks (pre ++ putB k a R U) y _ _ (by rw [hes, rowsB, List.append_assoc]) (fun r hr => h9 r (by simp [hr])) hnd.2 (fun r hr => ?_)
  rw [lk_step, hs r (by simp [hr])]
  have hne : codeR r ≠ codeR k := fun e => hnd.1 (by rw [← e]; exact List.mem_map_of_mem hr)
  rw [show (codeR r == codeR k) = false by simpa using hne]
  simp
def allK : List Nat := [0, 1, 2, 3, 4, 5, 6, 7, 8, 9]
theorem rowsB_all (a : At) (R U : List SV) : rowsB a R U allK = allB a R U := by
 unfold allB allK; simp only [rowsB, List.append_nil, List.nil_append, List.append_assoc]
def finD (a : At) (r u : List SV) : Ds := ⟨a.ori, a.nx, a.med, a.prf, a.orr, a.tk, a.tl, a.tr, a.tg, a.hm, a.hp, a.ho, a.path, a.cl, a.cm, r, u⟩
theorem nbs_pos {l : List SV} : 0 < (nbs l).length ↔ 0 < l.length := by have := nbs_len l; omega
theorem wr_at {a : At} {R U : List SV} : wrB 0 a R U = decide ((R.length : Int) > 0) ∧ wrB 1 a R U = decide ((R.length : Int) > 0) ∧ wrB 6 a R U = decide ((R.length : Int) > 0) := ⟨rfl, rfl, rfl⟩
def u0 (a : At) (d : Ds) : Ds := { d with ori := a.ori }
def u1 (a : At) (d : Ds) : Ds := { d with path := a.path }
def u2 (a : At) (d : Ds) : Ds := { d with hm := a.hm, med := a.med }
def u3 (a : At) (d : Ds) : Ds := { d with hp := a.hp, prf := a.prf }
def u4 (a : At) (d : Ds) : Ds := { d with ho := a.ho, orr := a.orr }
def u5 (a : At) (d : Ds) : Ds := { d with cl := a.cl }
def u6 (a : At) (r : List SV) (d : Ds) : Ds := { d with nx := a.nx, rch := r }
def u7 (u : List SV) (d : Ds) : Ds := { d with unr := u }
def u9 (a : At) (d : Ds) : Ds := { d with cm := if 0 < a.cm.length then a.cm else d.cm, tk := if a.tk = 0 then d.tk else a.tk, tl := if a.tk = 0 then d.tl else a.tl, tr := if a.tk = 0 then d.tr else a.tr, tg := if a.tk = 0 then d.tg else a.tg }
section
variable {a : At} (h : Valid a) {r u : List SV} (hr : goodR r) (hu : goodR u) (or : okR r = true) (ou : okR u = true)
include h hr hu or ou
theorem ok_all : ∀ k, k ≤ 9 → wrB k a (nbs r) (nbs u) = true → okC (codeR k) (valB k a (nbs r) (nbs u)) = true
 | 0, _, _ => (vlr0 h _ _ dI0).1
 | 1, _, _ => (vlr1 h _ _ dI0).1
 | 2, _, _ => (vlr2 h _ _ dI0).1
 | 3, _, _ => (vlr3 h _ _ dI0).1
 | 4, _, _ => (vlr4 h _ _ dI0).1
 | 5, _, hw => (vlr5 h _ _ (by have : (a.cl.length : Int) > 0 := of_decide_eq_true hw; omega) dI0).1
 | 6, _, hw => (vlr6 h _ _ rfl hr or (nbs_pos.1 (by have : ((nbs r).length : Int) > 0 := of_decide_eq_true hw; omega)) dI0).1
 | 7, _, _ => (vlr7 (a := a) (nbs r) _ rfl hu ou dI0).1
 | 8, _, hw => (vlr8 h _ _ (by have : (a.cm.length : Int) > 0 := of_decide_eq_true hw; omega) dI0).1
 | 9, _, hw => (vlr9 h _ _ (by have : (a.tk != 0) = true := hw; simpa using this) dI0).1
 | k + 10, hk, _ => by omega
omit hr hu or ou in
theorem dF_unr (d : Ds) : dF a (nbs r) (nbs u) [8, 9] d = u9 a d := by
 have er8 : ∀ d : Ds, (bif wrB 8 a (nbs r) (nbs u) then gD (codeR 8) (valB 8 a (nbs r) (nbs u)) d else d) = { d with cm := if 0 < a.cm.length then a.cm else d.cm } := by
  intro d
  by_cases hp : 0 < a.cm.length
  · rw [show wrB 8 a (nbs r) (nbs u) = true from decide_eq_true (by omega), cond_true, if_pos hp]; exact (vlr8 h _ _ hp d).2
  · rw [show wrB 8 a (nbs r) (nbs u) = false from decide_eq_false (by omega), cond_false, if_neg hp]
 have er9 : ∀ d : Ds, (bif wrB 9 a (nbs r) (nbs u) then gD (codeR 9) (valB 9 a (nbs r) (nbs u)) d else d) = { d with tk := if a.tk = 0 then d.tk else a.tk, tl := if a.tk = 0 then d.tl else a.tl, tr := if a.tk = 0 then d.tr else a.tr, tg := if a.tk = 0 then d.tg else a.tg } := by
  intro d
  by_cases hp : a.tk = 0
  · rw [show wrB 9 a (nbs r) (nbs u) = false by show (a.tk != 0) = false; simpa using hp, cond_false, if_pos hp, if_pos hp, if_pos hp, if_pos hp]
  · rw [show wrB 9 a (nbs r) (nbs u) = true by show (a.tk != 0) = true; simpa using hp, cond_true, if_neg hp, if_neg hp, if_neg hp, if_neg hp]
    exact (vlr9 h _ _ hp d).2
 rw [dF, dF, dF, er8, er9]; rfl
omit h hr or in
theorem er7 (d : Ds) (hd : d.unr = []) : (bif wrB 7 a (nbs r) (nbs u) then gD (codeR 7) (valB 7 a (nbs r) (nbs u)) d else d) = u7 u d := by
 cases hw : wrB 7 a (nbs r) (nbs u) with
 | true => rw [cond_true]; exact (vlr7 (a := a) (nbs r) _ rfl hu ou d).2
 | false =>
  have hz : ¬ 0 < u.length := by
   intro hp
   have h2 := nbs_pos.2 hp
   have : wrB 7 a (nbs r) (nbs u) = true := by
    show (bif decide (((nbs u).length : Int) > 0) then true else ((nbs r).length : Int) == 0) = true
    rw [decide_eq_true (by omega)]; rfl
   rw [hw] at this; cases this
  rw [cond_false]
  unfold u7
  rw [List.length_eq_zero_iff.1 (show u.length = 0 by omega), ← hd]
omit hr hu or ou in
theorem er5 (d : Ds) (hd : d.cl = []) : (bif wrB 5 a (nbs r) (nbs u) then gD (codeR 5) (valB 5 a (nbs r) (nbs u)) d else d) = u5 a d := by
 by_cases hp : 0 < a.cl.length
 · rw [show wrB 5 a (nbs r) (nbs u) = true from decide_eq_true (by omega), cond_true]; exact (vlr5 h _ _ hp d).2
 · rw [show wrB 5 a (nbs r) (nbs u) = false from decide_eq_false (by omega), cond_false]
   unfold u5
   rw [List.length_eq_zero_iff.1 (show a.cl.length = 0 by omega), ← hd]
omit hr hu or ou in
theorem er2 (d : Ds) (h1 : d.hm = false) (h2 : d.med = 0) : (bif wrB 2 a (nbs r) (nbs u) then gD (codeR 2) (valB 2 a (nbs r) (nbs u)) d else d) = u2 a d := by
 show (bif a.hm then gD (codeR 2) (valB 2 a (nbs r) (nbs u)) d else d) = _
 unfold u2
 cases hm : a.hm with
 | true => exact (vlr2 h _ _ d).2
 | false =>
  rw [h.med hm]
  show d = { d with hm := false, med := 0 }
  rw [← h1, ← h2]
omit hr hu or ou in
theorem er3 (d : Ds) (h1 : d.hp = false) (h2 : d.prf = 0) : (bif wrB 3 a (nbs r) (nbs u) then gD (codeR 3) (valB 3 a (nbs r) (nbs u)) d else d) = u3 a d := by
 show (bif a.hp then gD (codeR 3) (valB 3 a (nbs r) (nbs u)) d else d) = _
 unfold u3
 cases hm : a.hp with
 | true => exact (vlr3 h _ _ d).2
 | false =>
  rw [h.prf hm]
  show d = { d with hp := false, prf := 0 }
  rw [← h1, ← h2]
omit hr hu or ou in
theorem er4 (d : Ds) (h1 : d.ho = false) (h2 : d.orr = 0) : (bif wrB 4 a (nbs r) (nbs u) then gD (codeR 4) (valB 4 a (nbs r) (nbs u)) d else d) = u4 a d := by
 show (bif a.ho then gD (codeR 4) (valB 4 a (nbs r) (nbs u)) d else d) = _
 unfold u4
 cases hm : a.ho with
 | true => exact (vlr4 h _ _ d).2
 | false =>
  rw [h.orr hm]
  show d = { d with ho := false, orr := 0 }
  rw [← h1, ← h2]
omit hr hu or ou in
theorem u_fin : u9 a (u7 u (u6 a r (u5 a (u4 a (u3 a (u2 a (u1 a (u0 a dI0)))))))) = finD a r u := by
 have hc : (if 0 < a.cm.length then a.cm else ([] : List SV)) = a.cm := by
  by_cases hp : 0 < a.cm.length
  · rw [if_pos hp]
  · rw [if_neg hp, List.length_eq_zero_iff.1 (show a.cm.length = 0 by omega)]
 show (⟨a.ori, a.nx, a.med, a.prf, a.orr, if a.tk = 0 then 0 else a.tk, if a.tk = 0 then 0 else a.tl, if a.tk = 0 then 0 else a.tr, if a.tk = 0 then 0 else a.tg, a.hm, a.hp, a.ho, a.path, a.cl, if 0 < a.cm.length then a.cm else [], r, u⟩ : Ds) = ⟨a.ori, a.nx, a.med, a.prf, a.orr, a.tk, a.tl, a.tr, a.tg, a.hm, a.hp, a.ho, a.path, a.cl, a.cm, r, u⟩
 rw [hc]
 by_cases hk : a.tk = 0
 · obtain ⟨t1, t2, t3⟩ := h.t0 hk
   rw [if_pos hk, if_pos hk, if_pos hk, if_pos hk, t1, t2, t3, hk]
 · rw [if_neg hk, if_neg hk, if_neg hk, if_neg hk]
theorem dF_full (hn : 0 < r.length) : dF a (nbs r) (nbs u) allK dI0 = finD a r u := by
 have hR := nbs_pos.2 hn
 have w0 : wrB 0 a (nbs r) (nbs u) = true := decide_eq_true (by omega)
 have w1 : wrB 1 a (nbs r) (nbs u) = true := decide_eq_true (by omega)
 have w6 : wrB 6 a (nbs r) (nbs u) = true := decide_eq_true (by omega)
 have q0 : gD (codeR 0) (valB 0 a (nbs r) (nbs u)) dI0 = u0 a dI0 := (vlr0 h _ _ dI0).2
 have q1 : ∀ d, gD (codeR 1) (valB 1 a (nbs r) (nbs u)) d = u1 a d := fun d => (vlr1 h _ _ d).2
 have q6 : ∀ d, gD (codeR 6) (valB 6 a (nbs r) (nbs u)) d = u6 a r d := fun d => (vlr6 h _ _ rfl hr or hn d).2
 have q7 := fun d hd => er7 (a := a) (r := r) hu ou d hd
 rw [← u_fin h]
 show dF a (nbs r) (nbs u) [0, 1, 2, 3, 4, 5, 6, 7, 8, 9] dI0 = _
 rw [dF, w0, cond_true, q0, dF, w1, cond_true, q1, dF, er2 h _ rfl rfl, dF, er3 h _ rfl rfl, dF, er4 h _ rfl rfl, dF, er5 h _ rfl, dF, w6, cond_true, q6, dF, er7 hu ou _ rfl, dF_unr h]
omit hr or in
theorem dF_zero (hn : r.length = 0) (hz : a.hm = false ∧ a.hp = false ∧ a.ho = false ∧ a.cl.length = 0) : (dF a (nbs r) (nbs u) allK dI0).unr = u := by
 obtain ⟨z1, z2, z3, z4⟩ := hz
 have hR : (nbs r).length = 0 := by have := nbs_len r; omega
 have w0 : wrB 0 a (nbs r) (nbs u) = false := decide_eq_false (by omega)
 have w1 : wrB 1 a (nbs r) (nbs u) = false := decide_eq_false (by omega)
 have w6 : wrB 6 a (nbs r) (nbs u) = false := decide_eq_false (by omega)
 have w5 : wrB 5 a (nbs r) (nbs u) = false := decide_eq_false (by omega)
 have w2 : wrB 2 a (nbs r) (nbs u) = false := z1
 have w3' : wrB 3 a (nbs r) (nbs u) = false := z2
 have w4 : wrB 4 a (nbs r) (nbs u) = false := z3
 unfold allK
 rw [dF, w0, cond_false, dF, w1, cond_false, dF, w2, cond_false, dF, w3', cond_false, dF, w4, cond_false, dF, w5, cond_false, dF, w6, cond_false, dF, er7 hu ou _ rfl, dF_unr h]; rfl
end
end Go.Proofs.YtdgnhaacdpmclaaGreat
/- The reference reads attributes: numbers, lists. -/
namespace Go.Proofs.YtdgnhaacdpmclaaGreat
open Go.Am
set_option maxRecDepth 100000
end Go.Proofs.YtdgnhaacdpmclaaGreat
/- The reference reads attributes: its result, values that are numbers. -/
namespace Go.Proofs.YtdgnhaacdpmclaaGreat
open Go.Am
set_option maxRecDepth 100000
def mtL (f : Nat → Bool) : Nat → Nat → List SV
 | 0, _ => []
 | n + 1, i => .bool (f i) :: mtL f n (i + 1)
def rS (pb cb mb : Bool) (d : Ds) (f : Nat → Bool) : Chunk := .cells 83 (dL pb cb mb d ++ mtL f 256 0)
end Go.Proofs.YtdgnhaacdpmclaaGreat
/- The reference reads attributes: paths, routes, the tunnel. -/
namespace Go.Proofs.YtdgnhaacdpmclaaGreat
open Go.Am
set_option maxRecDepth 100000
end Go.Proofs.YtdgnhaacdpmclaaGreat
/- The reference reads attributes: routes. -/
namespace Go.Proofs.YtdgnhaacdpmclaaGreat
open Go.Am
set_option maxRecDepth 100000
end Go.Proofs.YtdgnhaacdpmclaaGreat
/- The reference reads attributes: the loop over clusters. -/
namespace Go.Proofs.YtdgnhaacdpmclaaGreat
open Go.Am
set_option maxRecDepth 100000
def mtF (l : List SV) (i : Nat) : Bool := asB (l.getD i .junk)
def yP : List SV → Option (Bool × Bool × Bool × Ds × (Nat → Bool))
 | .int .i64 ori :: p :: .int .u32 nx :: .bool hm :: .int .u32 med :: .bool hp :: .int .u32 prf :: .bool ho :: .int .u32 orr :: c :: m :: .int .i64 tk :: .int .u32 tl :: .int .u32 tr :: .int .u32 tg :: .psl 49 rch :: .psl 49 unr :: l =>
  some (bsOf p, bsOf c, bsOf m, ⟨ori, nx, med, prf, orr, tk, tl, tr, tg, hm, hp, ho, asL p, asL c, asL m, rch, unr⟩, mtF l)
 | _ => none
end Go.Proofs.YtdgnhaacdpmclaaGreat
/- The reference reads attributes: the loop over communities. -/
namespace Go.Proofs.YtdgnhaacdpmclaaGreat
open Go.Am
set_option maxRecDepth 100000
end Go.Proofs.YtdgnhaacdpmclaaGreat
/- The reference reads attributes: the loop over clusters, known. -/
namespace Go.Proofs.YtdgnhaacdpmclaaGreat
open Go.Am
set_option maxRecDepth 100000
end Go.Proofs.YtdgnhaacdpmclaaGreat
/- The reference reads attributes: the loop over communities, known. -/
namespace Go.Proofs.YtdgnhaacdpmclaaGreat
open Go.Am
set_option maxRecDepth 100000
end Go.Proofs.YtdgnhaacdpmclaaGreat
/- The reference reads attributes: lists of identifiers and of communities. -/
namespace Go.Proofs.YtdgnhaacdpmclaaGreat
open Go.Am
set_option maxRecDepth 100000
end Go.Proofs.YtdgnhaacdpmclaaGreat
/- The reference reads attributes: what is a value, in the same words. -/
namespace Go.Proofs.YtdgnhaacdpmclaaGreat
open Go.Am
set_option maxRecDepth 100000
end Go.Proofs.YtdgnhaacdpmclaaGreat
/- The reference reads attributes: values, known. -/
namespace Go.Proofs.YtdgnhaacdpmclaaGreat
open Go.Am
set_option maxRecDepth 100000
def rZ (z : Dz) (f : Nat → Bool) : Chunk := rS z.pb z.cb z.mb z.d f
section
variable {v : List SV} {pb cb mb : Bool} {d : Ds} {f : Nat → Bool} (hv : byl v) (hl : v.length ≤ 1000)
include hv hl
end
end Go.Proofs.YtdgnhaacdpmclaaGreat
/- The reference reads attributes: lists and the tunnel, known; any value. -/
namespace Go.Proofs.YtdgnhaacdpmclaaGreat
open Go.Am
set_option maxRecDepth 100000
section
variable {v : List SV} {pb cb mb : Bool} {d : Ds} {f : Nat → Bool} (hv : byl v) (hl : v.length ≤ 1000)
include hv hl
end
end Go.Proofs.YtdgnhaacdpmclaaGreat
/- The reference reads attributes: a value known, an attribute evaluated. -/
namespace Go.Proofs.YtdgnhaacdpmclaaGreat
open Go.Am
set_option maxRecDepth 100000
def stF (f : Nat → Bool) (g : Int) (i : Nat) : Bool := bif Nat.beq i g.toNat then true else f i
end Go.Proofs.YtdgnhaacdpmclaaGreat
/- The reference reads attributes: an attribute, by its code. -/
namespace Go.Proofs.YtdgnhaacdpmclaaGreat
open Go.Am
set_option maxRecDepth 100000
end Go.Proofs.YtdgnhaacdpmclaaGreat
/- The reference reads attributes: an attribute, of a code that is not known. -/
namespace Go.Proofs.YtdgnhaacdpmclaaGreat
open Go.Am
set_option maxRecDepth 100000
end Go.Proofs.YtdgnhaacdpmclaaGreat
/- The reference reads attributes: an attribute, known. -/
namespace Go.Proofs.YtdgnhaacdpmclaaGreat
open Go.Am
set_option maxRecDepth 100000
def oInv (z : Dz) (f : Nat → Bool) : Prop := nZ z = z ∧ (f 2 = false → z.pb = true) ∧ (f 10 = false → z.cb = true) ∧ (f 16 = false → z.mb = true)
end Go.Proofs.YtdgnhaacdpmclaaGreat
/- The reference reads attributes: the loop's summary. -/
namespace Go.Proofs.YtdgnhaacdpmclaaGreat
open Go.Am
set_option maxRecDepth 100000
def lkF (f : Nat → Bool) (g : Int) : Bool := f g.toNat
def cnF (f : Nat → Bool) : Nat → Bool := mtF (mtL f 256 0)
def aZc : Chunk := .cells 33 [.int .i64 0, .nils, .int .u32 0, .bool false, .int .u32 0, .bool false, .int .u32 0, .bool false, .int .u32 0, .nils, .nils, .int .i64 0, .int .u32 0, .int .u32 0, .int .u32 0]
def qH (c : Chunk) : HpL := [(0, aZc), (1, .cells 37 [.int .i64 0, .int .i64 0]), (2, c)]
def qV (c : Int) (p : List SV) : SV := .tup [.int .i64 c, .psl 5 p, .ptr 0 0, .nils, .nils, .ptr 1 0, .ptr 2 0]
noncomputable abbrev attM := attL lkF stF
def qF (e a : Int) : Chunk := .cells 37 [.int .i64 e, .int .i64 a]
noncomputable def qEnd (p : List SV) (o : Int × Int × (Nat → Bool) × Dz) : CTree :=
 .ite (o.1 == 0) (.ret (qV 2 p) [(2, some (rS false false false o.2.2.2.d o.2.2.1))]) (.ret (qV 1 p) [(1, some (qF o.1 o.2.1)), (0, some aZc), (2, none)])
def qInv (p : List SV) (a : Int) (z : Dz) (f : Nat → Bool) : Prop := oInv z f ∧ cnF f = f ∧ byl p ∧ p.length ≤ 1000 ∧ 0 ≤ a ∧ a ≤ p.length
noncomputable def q_s : CSumm := fun args H => match args, H with
 | [.psl 5 p, .ptr 0 0, .nils, .nils, .ptr 1 0, .ptr 2 0, .int .i64 a], [(0, _), (1, _), (2, .cells 83 cs)] => match yP cs with
  | some (pb, cb, mb, d, f) => .ite (dec (H = qH (rZ ⟨pb, cb, mb, d⟩ f) ∧ qInv p a ⟨pb, cb, mb, d⟩ f)) (qEnd p (attM p p.length a.toNat 0 f ⟨pb, cb, mb, d⟩)) .fail
  | none => .fail
 | _, _ => .fail
noncomputable def body10 : Code := Tryz.f10.body.getD .skip
noncomputable def c10 : Code := (loopAt 3 body10).getD .skip
noncomputable def e10 : LEnt := { ins := [0, 2, 3, 4, 5, 6, 7], outs := [0, 2, 3, 4, 5, 6], keep := [], size := 118, code := c10, s := q_s }
/- Behind a round. -/
/- Where the value begins and ends. -/
end Go.Proofs.YtdgnhaacdpmclaaGreat
/- The reference reads attributes: rounds of the loop with the codes 2 to 5. -/
namespace Go.Proofs.YtdgnhaacdpmclaaGreat
open Go.Am
set_option maxRecDepth 100000
end Go.Proofs.YtdgnhaacdpmclaaGreat
/- The reference reads attributes: rounds of the loop with the codes 9 to 14. -/
namespace Go.Proofs.YtdgnhaacdpmclaaGreat
open Go.Am
set_option maxRecDepth 100000
end Go.Proofs.YtdgnhaacdpmclaaGreat
/- The reference reads attributes: rounds of the loop with the codes 15 to 22. -/
namespace Go.Proofs.YtdgnhaacdpmclaaGreat
open Go.Am
set_option maxRecDepth 100000
end Go.Proofs.YtdgnhaacdpmclaaGreat
/- The reference reads attributes: rounds of the loop with unknown codes. -/
namespace Go.Proofs.YtdgnhaacdpmclaaGreat
open Go.Am
set_option maxRecDepth 100000
end Go.Proofs.YtdgnhaacdpmclaaGreat
/- The reference reads attributes: the loop, known. -/
namespace Go.Proofs.YtdgnhaacdpmclaaGreat
open Go.Am
set_option maxRecDepth 100000
section
variable {p : List SV} {a : Nat} (hb : byl p) (hl : p.length ≤ 1000)
include hb hl
end
end Go.Proofs.YtdgnhaacdpmclaaGreat
/- The reference reads attributes: the loop is valid. -/
namespace Go.Proofs.YtdgnhaacdpmclaaGreat
open Go.Am
set_option maxRecDepth 100000
section
variable {N a : Nat} {p : List SV} {pb cb mb : Bool} {d : Ds} {f : Nat → Bool} {v' : SV} {ups' : List (Nat × Option Chunk)}
variable (hm : qInv p (a : Int) ⟨pb, cb, mb, d⟩ f) (hN : p.length - a < N + 1) (h : crun (qEnd p (attM p p.length a 0 f ⟨pb, cb, mb, d⟩)) = some (v', ups'))
include hm hN h
end
end Go.Proofs.YtdgnhaacdpmclaaGreat
/- The reference reads attributes: Read. -/
namespace Go.Proofs.YtdgnhaacdpmclaaGreat
open Go.Am
set_option maxRecDepth 100000
def f0 : Nat → Bool := fun _ => false
end Go.Proofs.YtdgnhaacdpmclaaGreat
