/- What has been written is read: an attribute. -/
import Derived.Test.YtdgnhaacdpmclaaGreatPart18
set_option linter.unusedVariables false
set_option linter.unusedSimpArgs false
namespace Go.Proofs.YtdgnhaacdpmclaaGreat
open Go.Am
set_option maxRecDepth 100000
theorem dg_app {pre l : List SV} (j : Nat) : dg (pre ++ l) (pre.length + j) = dg l j := by
 unfold dg
 rw [List.getD_eq_getElem?_getD, List.getElem?_append_right (by omega), List.getD_eq_getElem?_getD, Nat.add_sub_cancel_left]
theorem dg_lt {l m : List SV} {j : Nat} (h : j < l.length) : dg (l ++ m) j = dg l j := by
 unfold dg
 rw [List.getD_eq_getElem?_getD, List.getElem?_append_left h, List.getD_eq_getElem?_getD]
theorem p2 : (256 : Int) ^ 2 = 65536 := by decide
def okFl (f : Int) : Prop := f = 64 ∨ f = 128 ∨ f = 192
theorem fl_short {f : Int} (h : okFl f) : andI .u8 f 16 = 0 := by rcases h with rfl | rfl | rfl <;> rfl
theorem fl_long {f : Int} (h : okFl f) : andI .u8 (orF f) 16 ≠ 0 := by rcases h with rfl | rfl | rfl <;> decide
theorem atB_long {f c : Int} {v : List SV} (h : v.length > 255) : atB f c v = hdL f c ++ (be (IntKind.u64.wrap v.length) 2 ++ v) := by
 unfold atB; rw [decide_eq_true (show (v.length : Int) > 255 by omega), cond_true, List.append_assoc]
theorem atB_short {f c : Int} {v : List SV} (h : ¬ v.length > 255) : atB f c v = hdS f c (IntKind.u8.wrap v.length) ++ v := by
 unfold atB; rw [decide_eq_false (show ¬ (v.length : Int) > 255 by omega)]; rfl
theorem at_parts {pre post v es : List SV} {f c : Int} (hes : es = pre ++ (atB f c v ++ post)) (hf : okFl f) (hv : v.length ≤ 65535) :
  cdOf es pre.length = c ∧ (dg es pre.length = f ∨ dg es pre.length = orF f) ∧ vE es pre.length = pre.length + (atB f c v).length ∧ okN es pre.length es.length ∧ vl es (vS es pre.length) (vE es pre.length) = v ∧ pre.length < es.length := by
 by_cases h : v.length > 255
 · rw [atB_long h] at hes ⊢
   have hlen : (hdL f c ++ (be (IntKind.u64.wrap v.length) 2 ++ v)).length = 4 + v.length := by simp [hdL, be_len]; omega
   have d0 : dg es pre.length = orF f := by rw [hes]; exact dg_app (pre := pre) 0
   have d1 : cdOf es pre.length = c := by unfold cdOf; rw [hes, dg_app]; rfl
   have hh : hdN es pre.length = 4 := by unfold hdN; rw [d0, if_pos (fl_long hf)]
   have hw : IntKind.u64.wrap v.length = v.length := w6_id (by omega) (by omega)
   have hl : lnN es pre.length = v.length := by
    unfold lnN
    rw [hh]
    have := tk_at (xs := es) (pre := pre ++ hdL f c) (post := v ++ post) (n := (v.length : Int)) (k := 2) (s := pre.length + 2) (by rw [hes, hw]; simp [List.append_assoc]) (by simp [hdL]) (by omega) (by rw [p2]; omega)
    rw [show 4 - 2 = 2 from rfl, this]; rfl
   have hE : vE es pre.length = pre.length + (4 + v.length) := by unfold vE; rw [hh, hl]; omega
   have hL : es.length = pre.length + (4 + v.length + post.length) := by rw [hes, List.length_append, List.length_append, hlen]
   refine ⟨d1, .inr d0, by rw [hE, hlen], ⟨by rw [hh]; omega, by rw [hh, hl]; omega⟩, ?_, by omega⟩
   unfold vl sl vS
   rw [hE, hh, hes, show pre.length + (4 + v.length) - (pre.length + 4) = v.length by omega, ← List.drop_drop, List.drop_left]
   show ((hdL f c ++ (be (IntKind.u64.wrap v.length) 2 ++ v) ++ post).drop 4).take v.length = v
   rw [show hdL f c ++ (be (IntKind.u64.wrap v.length) 2 ++ v) ++ post = (hdL f c ++ be (IntKind.u64.wrap v.length) 2) ++ (v ++ post) by simp [List.append_assoc], show 4 = (hdL f c ++ be (IntKind.u64.wrap v.length) 2).length by simp [hdL, be_len], List.drop_left, List.take_left]
 · rw [atB_short h] at hes ⊢
   have hlen : (hdS f c (IntKind.u8.wrap v.length) ++ v).length = 3 + v.length := by simp [hdS]; omega
   have d0 : dg es pre.length = f := by rw [hes]; exact dg_app (pre := pre) 0
   have d1 : cdOf es pre.length = c := by unfold cdOf; rw [hes, dg_app]; rfl
   have hh : hdN es pre.length = 3 := by unfold hdN; rw [d0, if_neg (by rw [fl_short hf]; decide)]
   have hl : lnN es pre.length = v.length := by
    unfold lnN
    rw [hh, show 3 - 2 = 1 from rfl, tk1, hes, dg_app]
    show (IntKind.u8.wrap (v.length : Int)).toNat = v.length
    rw [w8_id (by omega) (by omega)]; rfl
   have hE : vE es pre.length = pre.length + (3 + v.length) := by unfold vE; rw [hh, hl]; omega
   have hL : es.length = pre.length + (3 + v.length + post.length) := by rw [hes, List.length_append, List.length_append, hlen]
   refine ⟨d1, .inl d0, by rw [hE, hlen], ⟨by rw [hh]; omega, by rw [hh, hl]; omega⟩, ?_, by omega⟩
   unfold vl sl vS
   rw [hE, hh, hes, show pre.length + (3 + v.length) - (pre.length + 3) = v.length by omega, ← List.drop_drop, List.drop_left]
   show ((hdS f c (IntKind.u8.wrap v.length) ++ v ++ post).drop 3).take v.length = v
   rw [List.append_assoc, show 3 = (hdS f c (IntKind.u8.wrap v.length)).length from rfl, List.drop_left, List.take_left]
theorem fit_row (r : Nat) (hr : r ≤ 9) : okFl (flagR r) ∧ knC (codeR r) = true ∧ fitC (codeR r) (flagR r) = true ∧ fitC (codeR r) (orF (flagR r)) = true := by
 have : ∀ r, r ≤ 9 → (flagR r = 64 ∨ flagR r = 128 ∨ flagR r = 192) ∧ knC (codeR r) = true ∧ fitC (codeR r) (flagR r) = true ∧ fitC (codeR r) (orF (flagR r)) = true := by decide
 exact this r hr
section
variable {σ : Type} {lk : σ → Int → Bool} {st : σ → Int → σ}
theorem att_go {pre post v es : List SV} {r : Nat} (hr : r ≤ 9) (hes : es = pre ++ (atB (flagR r) (codeR r) v ++ post)) (hv : v.length ≤ 65535) {x : Int} {s : σ} {z : Dz} (hl : lk s (codeR r) = false) (hok : okC (codeR r) v = true) :
  attL lk st es es.length pre.length x s z = attL lk st es es.length (pre ++ atB (flagR r) (codeR r) v).length pre.length (st s (codeR r)) (gC (codeR r) v z) := by
 obtain ⟨f1, f2, f3, f4⟩ := fit_row r hr
 obtain ⟨p1, p2, p3, p4, p5, p6⟩ := at_parts hes f1 hv
 have hfit : fitC (cdOf es pre.length) (dg es pre.length) = true := by rw [p1]; rcases p2 with h | h <;> rw [h] <;> assumption
 have h := attL_go (lk := lk) (st := st) (at_ := x) (s := s) (z := z) p6 p4 (by rw [p1]; exact f2) hfit (by rw [p1]; exact hl) (by rw [p1, p5]; exact hok)
 rw [h, p1, p5, p3, List.length_append]
theorem att_row {pre post es : List SV} {r : Nat} {a : At} {R U : List SV} (hr : r ≤ 9) (hes : es = pre ++ (putB r a R U ++ post)) (hv : (valB r a R U).length ≤ 65535) {x : Int} {s : σ} {z : Dz} (hl : lk s (codeR r) = false) (hok : wrB r a R U = true → okC (codeR r) (valB r a R U) = true) :
  ∃ y, attL lk st es es.length pre.length x s z = attL lk st es es.length (pre ++ putB r a R U).length y (bif wrB r a R U then st s (codeR r) else s) (bif wrB r a R U then gC (codeR r) (valB r a R U) z else z) := by
 cases hw : wrB r a R U with
 | true =>
  have hp : putB r a R U = atB (flagR r) (codeR r) (valB r a R U) := by unfold putB; rw [hw]; rfl
  rw [hp] at hes ⊢
  exact ⟨_, att_go hr hes hv hl (hok hw)⟩
 | false =>
  have hp : putB r a R U = [] := by unfold putB; rw [hw]; rfl
  rw [hp, List.append_nil]
  exact ⟨x, rfl⟩
end
end Go.Proofs.YtdgnhaacdpmclaaGreat
/- What has been written is read: routes, lists. -/
namespace Go.Proofs.YtdgnhaacdpmclaaGreat
open Go.Am
set_option maxRecDepth 100000
def goodR (l : List SV) : Prop := ∀ x ∈ l, ∃ n : Nl, x = n.v ∧ RgE n
theorem nlAt_v (n : Nl) : nlAt n.v = n := by cases n; rfl
theorem getD_mem {l : List SV} {j : Nat} (h : j < l.length) : l.getD j .junk ∈ l := by
 rw [List.getD_eq_getElem?_getD, List.getElem?_eq_getElem h]; exact List.getElem_mem h
theorem byl_app {a b : List SV} (ha : byl a) (hb : byl b) : byl (a ++ b) := fun v hv => by
 rcases List.mem_append.1 hv with h | h
 · exact ha v h
 · exact hb v h
theorem rt_good {l : List SV} (hg : goodR l) {i : Int} (h0 : 0 ≤ i) (h1 : i < l.length) : l.getD i.toNat .junk = (rt l i).v ∧ RgE (rt l i) := by
 obtain ⟨n, h2, h3⟩ := hg _ (getD_mem (show i.toNat < l.length by omega))
 unfold rt
 rw [h2, nlAt_v]
 exact ⟨rfl, h3⟩
theorem nbAll_byl {l : List SV} (hg : goodR l) : ∀ (k : Nat) (i : Int), 0 ≤ i → i + k ≤ l.length → byl (nbAll k l i)
 | 0, _, _, _ => fun v hv => by cases hv
 | k + 1, i, h0, h1 => byl_app (nb_byl (rt_good hg h0 (by omega)).2) (nbAll_byl hg k (i + 1) (by omega) (by omega))
theorem pcs_nb {l : List SV} (hg : goodR l) : ∀ (k : Nat) (i b : Int) (rs : List SV), 0 ≤ i → i + k ≤ l.length → okAll k l i = true → rs.length + k ≤ 4096 → pcsL (nbAll k l i) b rs = (0, 0, rs ++ (l.drop i.toNat).take k)
 | 0, i, b, rs, _, _, _, _ => by rw [pcsL_nil rfl]; simp
 | k + 1, i, b, rs, h0, h1, ho, hr => by
  obtain ⟨g1, g2⟩ := rt_good hg h0 (by omega)
  rw [okAll, Bool.and_eq_true, decide_eq_true_eq] at ho
  obtain ⟨⟨o1, o2⟩, o3⟩ := ho
  have hb := nbAll_byl hg (k + 1) i h0 (by omega)
  have hd : DecOk (nb (rt l i)) (rt l i) := ⟨o1, o2, rfl⟩
  obtain ⟨v1, v2, v3, v4, v5⟩ := dec_val hd
  rw [nbAll] at hb ⊢
  have hs : szP (nb (rt l i) ++ nbAll k l (i + 1)) = (nb (rt l i)).length := by
   unfold szP
   rw [if_pos (by rw [List.length_append]; omega), dg_lt (by omega), v4, List.length_append]
   omega
  have ht : (nb (rt l i) ++ nbAll k l (i + 1)).take (nb (rt l i)).length = nb (rt l i) := List.take_left
  have hdr : (nb (rt l i) ++ nbAll k l (i + 1)).drop (nb (rt l i)).length = nbAll k l (i + 1) := List.drop_left
  rw [pcsL_step hb (by rw [List.length_append]; omega), if_neg (by omega), hs, ht, hdr, decE_ok hd, if_neg (by simp), decN_eq hd, pcs_nb hg k (i + 1) _ _ (by omega) (by omega) o3 (by rw [List.length_append, List.length_singleton]; omega), List.append_assoc]
  congr 3
  rw [show (i + 1).toNat = i.toNat + 1 by omega, List.drop_eq_getElem_cons (show i.toNat < l.length by omega), List.take_succ_cons, List.singleton_append]
  congr 1
  rw [← g1, List.getD_eq_getElem?_getD, List.getElem?_eq_getElem (show i.toNat < l.length by omega)]; rfl
theorem rd_nbs {l : List SV} (hg : goodR l) (ho : okR l = true) : rdE (nbs l) = 0 ∧ rdL (nbs l) = l := by
 unfold okR at ho
 rw [Bool.and_eq_true, decide_eq_true_eq] at ho
 have h := pcs_nb hg l.length 0 0 [] (by omega) (by omega) ho.2 (by simp; omega)
 have h2 : pcsL (nbs l) 0 [] = (0, 0, l) := by
  show pcsL (nbAll l.length l 0) 0 [] = _
  rw [h]; simp
 unfold rdE rdL
 rw [h2]
 exact ⟨rfl, rfl⟩
theorem p4 : (256 : Int) ^ 4 = 4294967296 := by decide
def sh32 (l : List SV) : Prop := ∀ x ∈ l, ∃ n : Int, x = .int .u32 n ∧ 0 ≤ n ∧ n < 4294967296
def sh8 (l : List SV) : Prop := ∀ x ∈ l, ∃ b0 b1 b2 b3 b4 b5 b6 b7 : Int, x = .agg [.int .u8 b0, .int .u8 b1, .int .u8 b2, .int .u8 b3, .int .u8 b4, .int .u8 b5, .int .u8 b6, .int .u8 b7]
theorem take_drop_cons {l : List SV} {i : Int} {k : Nat} (h0 : 0 ≤ i) (h1 : i < l.length) : (l.drop i.toNat).take (k + 1) = l.getD i.toNat .junk :: (l.drop (i + 1).toNat).take k := by
 rw [show (i + 1).toNat = i.toNat + 1 by omega, List.drop_eq_getElem_cons (show i.toNat < l.length by omega), List.take_succ_cons, List.getD_eq_getElem?_getD, List.getElem?_eq_getElem (show i.toNat < l.length by omega)]; rfl
theorem wd_wds {l : List SV} (hs : sh32 l) (post : List SV) : ∀ (k : Nat) (i : Int) (pre : List SV), 0 ≤ i → i + k ≤ l.length → wd (pre ++ (wds k l i ++ post)) pre.length k = (l.drop i.toNat).take k
 | 0, _, _, _, _ => by simp [wd]
 | k + 1, i, pre, h0, h1 => by
  obtain ⟨n, e1, e2, e3⟩ := hs _ (getD_mem (show i.toNat < l.length by omega))
  have hw : wdB l i = be n 4 := by
   unfold wdB; rw [e1]; show be (w6 n) 4 = _; rw [w6_id e2 (by omega)]
  rw [take_drop_cons h0 (by omega), wd, wds, hw, e1]
  have ht : tkN (pre ++ (be n 4 ++ wds k l (i + 1) ++ post)) pre.length 4 = n := tk_at (pre := pre) (post := wds k l (i + 1) ++ post) (by simp [List.append_assoc]) rfl e2 (by rw [p4]; omega)
  rw [ht]
  congr 1
  have := wd_wds hs post k (i + 1) (pre ++ be n 4) (by omega) (by omega)
  rw [List.length_append, be_len] at this
  rw [← this]
  congr 1
  simp [List.append_assoc]
theorem cw_cmBs {l : List SV} (hs : sh8 l) (post : List SV) : ∀ (k : Nat) (i : Int) (pre : List SV), 0 ≤ i → i + k ≤ l.length → cw (pre ++ (cmBs k l i ++ post)) pre.length k = (l.drop i.toNat).take k
 | 0, _, _, _, _ => by simp [cw]
 | k + 1, i, pre, h0, h1 => by
  obtain ⟨b0, b1, b2, b3, b4, b5, b6, b7, e1⟩ := hs _ (getD_mem (show i.toNat < l.length by omega))
  have hw : cmB l i = [.int .u8 b0, .int .u8 b1, .int .u8 b2, .int .u8 b3, .int .u8 b4, .int .u8 b5, .int .u8 b6, .int .u8 b7] := by unfold cmB; rw [e1]; rfl
  rw [take_drop_cons h0 (by omega), cw, cmBs, e1]
  have hsl : sl (pre ++ (cmB l i ++ cmBs k l (i + 1) ++ post)) pre.length 8 = cmB l i := by
   unfold sl
   rw [List.drop_left, List.append_assoc, show 8 = (cmB l i).length by rw [hw]; rfl, List.take_left]
  rw [hsl, hw]
  congr 1
  have := cw_cmBs hs post k (i + 1) (pre ++ cmB l i) (by omega) (by omega)
  rw [List.length_append, show (cmB l i).length = 8 by rw [hw]; rfl] at this
  rw [← this, hw]
  congr 1
  simp [List.append_assoc]
end Go.Proofs.YtdgnhaacdpmclaaGreat
/- What has been written is read: the values. -/
namespace Go.Proofs.YtdgnhaacdpmclaaGreat
open Go.Am
set_option maxRecDepth 100000
structure Valid (a : At) : Prop where
 ok : OkA a
 ori : a.ori ≤ 2
 pl : a.path.length ≤ 32
 cl : a.cl.length ≤ 16
 cm : a.cm.length ≤ 64
 med : a.hm = false → a.med = 0
 prf : a.hp = false → a.prf = 0
 orr : a.ho = false → a.orr = 0
 tk : a.tk = 0 ∨ a.tk = 3 ∨ a.tk = 6
 t0 : a.tk = 0 → a.tl = 0 ∧ a.tr = 0 ∧ a.tg = 0
 t6 : a.tk = 6 → a.tg = 0
 ps : sh32 a.path
 cs : sh32 a.cl
 ms : sh8 a.cm
theorem dg_at {xs pre post : List SV} {n : Int} {s : Nat} (hx : xs = pre ++ (be n 1 ++ post)) (hs : s = pre.length) (h0 : 0 ≤ n) (h1 : n < 256) : dg xs s = n := by
 rw [← tk1]; exact tk_at hx hs h0 (by simpa using h1)
theorem p3 : (256 : Int) ^ 3 = 16777216 := by decide
section
variable {a : At} (h : Valid a) (R U : List SV)
include h
theorem vlr0 (d : Ds) : okC 1 (valB 0 a R U) = true ∧ gD 1 (valB 0 a R U) d = { d with ori := a.ori } := by
 obtain ⟨o0, o1⟩ := h.ok.ori
 have h2 := h.ori
 have ht : tkN (be (w6 a.ori) 1) 0 1 = a.ori := by
  rw [w6_id o0 (by omega)]
  exact tk_at (pre := []) (post := []) (by simp) rfl o0 (by simp; omega)
 refine ⟨?_, ?_⟩
 · show (decide ((be (w6 a.ori) 1).length = 1) && decide (tkN (be (w6 a.ori) 1) 0 1 ≤ 2)) = true
   rw [be_len, ht, decide_eq_true rfl, decide_eq_true h2]; rfl
 · show ({ d with ori := IntKind.i64.wrap (tkN (be (w6 a.ori) 1) 0 1) } : Ds) = _
   rw [ht, w64_id (by omega) (by omega)]
omit h in
theorem tk4 {n : Int} (h0 : 0 ≤ n) (h1 : n < 4294967296) : tkN (be (w6 n) 4) 0 4 = n := by
 rw [w6_id h0 (by omega)]
 exact tk_at (pre := []) (post := []) (by simp) rfl h0 (by rw [p4]; exact h1)
omit h in
theorem num4 {n : Int} (h0 : 0 ≤ n) (h1 : n < 4294967296) : (decide ((be (w6 n) 4).length = 4) && decide (tkN (be (w6 n) 4) 0 4 ≤ 4294967295)) = true := by
 rw [be_len, tk4 h0 h1, decide_eq_true rfl, decide_eq_true (by omega)]; rfl
theorem vlr2 (d : Ds) : okC 4 (valB 2 a R U) = true ∧ gD 4 (valB 2 a R U) d = { d with hm := true, med := a.med } := by
 obtain ⟨o0, o1⟩ := h.ok.med
 refine ⟨num4 o0 o1, ?_⟩
 show ({ d with hm := true, med := w3 (tkN (be (w6 a.med) 4) 0 4) } : Ds) = _
 rw [tk4 o0 o1, w3_id o0 o1]
theorem vlr3 (d : Ds) : okC 5 (valB 3 a R U) = true ∧ gD 5 (valB 3 a R U) d = { d with hp := true, prf := a.prf } := by
 obtain ⟨o0, o1⟩ := h.ok.prf
 refine ⟨num4 o0 o1, ?_⟩
 show ({ d with hp := true, prf := w3 (tkN (be (w6 a.prf) 4) 0 4) } : Ds) = _
 rw [tk4 o0 o1, w3_id o0 o1]
theorem vlr4 (d : Ds) : okC 9 (valB 4 a R U) = true ∧ gD 9 (valB 4 a R U) d = { d with ho := true, orr := a.orr } := by
 obtain ⟨o0, o1⟩ := h.ok.orr
 refine ⟨num4 o0 o1, ?_⟩
 show ({ d with ho := true, orr := w3 (tkN (be (w6 a.orr) 4) 0 4) } : Ds) = _
 rw [tk4 o0 o1, w3_id o0 o1]
theorem vlr1 (d : Ds) : okC 2 (valB 1 a R U) = true ∧ gD 2 (valB 1 a R U) d = { d with path := a.path } := by
 have hp := h.pl
 show ptOk (pathB a) = true ∧ ptG (pathB a) d = _
 by_cases h0 : a.path.length = 0
 · have hn : a.path = [] := List.length_eq_zero_iff.1 h0
   have hb : pathB a = [] := by unfold pathB; rw [hn]; rfl
   rw [hb, hn]; exact ⟨rfl, rfl⟩
 · have hb : pathB a = (be 2 1 ++ be (w6 a.path.length) 1) ++ (wds a.path.length a.path 0 ++ []) := by
     unfold pathB; rw [decide_eq_true (by omega), List.append_nil]; rfl
   have hl : (pathB a).length = 2 + 4 * a.path.length := by rw [hb]; simp [be_len, wds_len]; omega
   have d0 : dg (pathB a) 0 = 2 := dg_at (pre := []) (post := be (w6 a.path.length) 1 ++ wds a.path.length a.path 0) (by rw [hb]; simp [List.append_assoc]) rfl (by omega) (by omega)
   have d1 : dg (pathB a) 1 = a.path.length := dg_at (pre := be 2 1) (post := wds a.path.length a.path 0) (n := (a.path.length : Int)) (by rw [hb, w6_id (by omega) (by omega)]; simp [List.append_assoc]) (by simp [be_len]) (by omega) (by omega)
   have hq : elQ (((pathB a).length - 2 : Nat) : Int) 4 = ((a.path.length : Nat) : Int) := by
    rw [hl, show 2 + 4 * a.path.length - 2 = 4 * a.path.length by omega]
    have := elQ_n (4 * a.path.length) (by omega) 4 (by omega)
    rw [Nat.mul_div_cancel_left _ (by omega)] at this
    exact this
   have hB : elB (((pathB a).length - 2 : Nat) : Int) 4 32 = true := by
    rw [hl, show 2 + 4 * a.path.length - 2 = 4 * a.path.length by omega]
    exact (elB_n (k := 4 * a.path.length) (by omega) (z := 4) (m := 32) (by omega)).2 (by omega)
   have hw : wd (pathB a) 2 a.path.length = a.path := by
    rw [hb]
    have := wd_wds h.ps [] a.path.length 0 (be 2 1 ++ be (w6 a.path.length) 1) (by omega) (by omega)
    rw [List.length_append, be_len, be_len] at this
    rw [this]; simp
   refine ⟨?_, ?_⟩
   · unfold ptOk
     rw [hB, hq, d0, d1, show ((pathB a).length == 0) = false by rw [hl]; simp, decide_eq_true (by omega)]
     simp
   · unfold ptG
     rw [hq, show ((pathB a).length == 0) = false by rw [hl]; simp, cond_false]
     show ({ d with path := wd (pathB a) 2 a.path.length } : Ds) = _
     rw [hw]
theorem vlr5 (hp : 0 < a.cl.length) (d : Ds) : okC 10 (valB 5 a R U) = true ∧ gD 10 (valB 5 a R U) d = { d with cl := a.cl } := by
 have hm := h.cl
 have hl : (wds a.cl.length a.cl 0).length = 4 * a.cl.length := wds_len _ _ _
 refine ⟨?_, ?_⟩
 · show elB ((wds a.cl.length a.cl 0).length : Int) 4 16 = true
   rw [hl]
   exact (elB_n (k := 4 * a.cl.length) (by omega) (z := 4) (m := 16) (by omega)).2 (by omega)
 · show ({ d with cl := wd (wds a.cl.length a.cl 0) 0 ((wds a.cl.length a.cl 0).length / 4) } : Ds) = _
   rw [hl, Nat.mul_div_cancel_left _ (by omega)]
   have := wd_wds h.cs [] a.cl.length 0 [] (by omega) (by omega)
   simp only [List.nil_append, List.append_nil, List.length_nil] at this
   rw [this]; simp
theorem vlr8 (hp : 0 < a.cm.length) (d : Ds) : okC 16 (valB 8 a R U) = true ∧ gD 16 (valB 8 a R U) d = { d with cm := a.cm } := by
 have hm := h.cm
 have hl : (cmBs a.cm.length a.cm 0).length = 8 * a.cm.length := cmBs_len _ _ _
 refine ⟨?_, ?_⟩
 · show elB ((cmBs a.cm.length a.cm 0).length : Int) 8 64 = true
   rw [hl]
   exact (elB_n (k := 8 * a.cm.length) (by omega) (z := 8) (m := 64) (by omega)).2 (by omega)
 · show ({ d with cm := cw (cmBs a.cm.length a.cm 0) 0 ((cmBs a.cm.length a.cm 0).length / 8) } : Ds) = _
   rw [hl, Nat.mul_div_cancel_left _ (by omega)]
   have := cw_cmBs h.ms [] a.cm.length 0 [] (by omega) (by omega)
   simp only [List.nil_append, List.append_nil, List.length_nil] at this
   rw [this]; simp
omit h in
theorem fam_tk (post : List SV) : tkN (fam ++ post) 0 3 = 6470 := tk_at (pre := []) (post := post) (n := 6470) (k := 3) (by simp [fam]) rfl (by decide) (by rw [p3]; decide)
omit h in
theorem vlr7 {u : List SV} (hU : U = nbs u) (hg : goodR u) (ho : okR u = true) (d : Ds) : okC 15 (valB 7 a R U) = true ∧ gD 15 (valB 7 a R U) d = { d with unr := u } := by
 obtain ⟨e1, e2⟩ := rd_nbs hg ho
 have hv : valB 7 a R U = fam ++ nbs u := by rw [hU]; rfl
 rw [hv]
 have hd : (fam ++ nbs u).drop 3 = nbs u := List.drop_left' (by simp [fam, be_len])
 refine ⟨?_, ?_⟩
 · show unOk (fam ++ nbs u) = true
   unfold unOk
   rw [hd, fam_tk, e1, decide_eq_true (by simp [fam, be_len])]; rfl
 · show ({ d with unr := rdL ((fam ++ nbs u).drop 3) } : Ds) = _
   rw [hd, e2]
theorem vlr6 {r : List SV} (hR : R = nbs r) (hg : goodR r) (ho : okR r = true) (hn : 0 < r.length) (d : Ds) : okC 14 (valB 6 a R U) = true ∧ gD 14 (valB 6 a R U) d = { d with nx := a.nx, rch := r } := by
 obtain ⟨e1, e2⟩ := rd_nbs hg ho
 obtain ⟨o0, o1⟩ := h.ok.nx
 have hv : valB 6 a R U = fam ++ (be 4 1 ++ (be (w6 a.nx) 4 ++ (be 0 1 ++ nbs r))) := by
  rw [hR]; show reachB a (nbs r) = _; unfold reachB; simp [List.append_assoc]
 rw [hv]
 have hfl : fam.length = 3 := be_len _ _
 have hd : (fam ++ (be 4 1 ++ (be (w6 a.nx) 4 ++ (be 0 1 ++ nbs r)))).drop 9 = nbs r := by
  rw [show fam ++ (be 4 1 ++ (be (w6 a.nx) 4 ++ (be 0 1 ++ nbs r))) = (fam ++ be 4 1 ++ be (w6 a.nx) 4 ++ be 0 1) ++ nbs r by simp [List.append_assoc]]
  exact List.drop_left' (by simp [hfl, be_len])
 have d3 : dg (fam ++ (be 4 1 ++ (be (w6 a.nx) 4 ++ (be 0 1 ++ nbs r)))) 3 = 4 := dg_at (pre := fam) (post := be (w6 a.nx) 4 ++ (be 0 1 ++ nbs r)) rfl hfl.symm (by omega) (by omega)
 have d8 : dg (fam ++ (be 4 1 ++ (be (w6 a.nx) 4 ++ (be 0 1 ++ nbs r)))) 8 = 0 := dg_at (pre := fam ++ be 4 1 ++ be (w6 a.nx) 4) (post := nbs r) (by simp [List.append_assoc]) (by simp [hfl, be_len]) (by omega) (by omega)
 have t4 : tkN (fam ++ (be 4 1 ++ (be (w6 a.nx) 4 ++ (be 0 1 ++ nbs r)))) 4 4 = a.nx := tk_at (pre := fam ++ be 4 1) (post := be 0 1 ++ nbs r) (n := a.nx) (k := 4) (by rw [w6_id o0 (by omega)]; simp [List.append_assoc]) (by simp [hfl, be_len]) o0 (by rw [p4]; exact o1)
 refine ⟨?_, ?_⟩
 · show rcOk (fam ++ (be 4 1 ++ (be (w6 a.nx) 4 ++ (be 0 1 ++ nbs r)))) = true
   unfold rcOk
   rw [hd, fam_tk, d3, d8, e1, e2, decide_eq_true (by simp [hfl, be_len]; omega), decide_eq_true (by omega)]; rfl
 · show ({ d with nx := tkN (fam ++ (be 4 1 ++ (be (w6 a.nx) 4 ++ (be 0 1 ++ nbs r)))) 4 4, rch := rdL ((fam ++ (be 4 1 ++ (be (w6 a.nx) 4 ++ (be 0 1 ++ nbs r)))).drop 9) } : Ds) = _
   rw [hd, e2, t4]
theorem vlr9 (hp : a.tk ≠ 0) (d : Ds) : okC 22 (valB 9 a R U) = true ∧ gD 22 (valB 9 a R U) d = dT d a.tk a.tl a.tr a.tg := by
 obtain ⟨k0, k1⟩ := h.ok.tk
 obtain ⟨l0, l1⟩ := h.ok.tl
 obtain ⟨r0, r1⟩ := h.ok.tr
 obtain ⟨g0, g1⟩ := h.ok.tg
 have htB : tunB a = be 0 1 ++ (be a.tk 1 ++ (be a.tl 3 ++ be a.tr 4)) := by
  unfold tunB; rw [w6_id k0 (by omega), w6_id l0 (by omega), w6_id r0 (by omega)]; simp [List.append_assoc]
 have key : ∀ post : List SV, dg (tunB a ++ post) 0 = 0 ∧ dg (tunB a ++ post) 1 = a.tk ∧ tkN (tunB a ++ post) 2 3 = a.tl ∧ tkN (tunB a ++ post) 5 4 = a.tr := by
  intro post
  rw [htB]
  exact ⟨dg_at (pre := []) (post := be a.tk 1 ++ (be a.tl 3 ++ be a.tr 4) ++ post) (by simp [List.append_assoc]) rfl (by omega) (by omega),
   dg_at (pre := be 0 1) (post := be a.tl 3 ++ be a.tr 4 ++ post) (by simp [List.append_assoc]) (by simp [be_len]) k0 k1,
   tk_at (pre := be 0 1 ++ be a.tk 1) (post := be a.tr 4 ++ post) (by simp [List.append_assoc]) (by simp [be_len]) l0 (by rw [p3]; exact l1),
   tk_at (pre := be 0 1 ++ be a.tk 1 ++ be a.tl 3) (post := post) (by simp [List.append_assoc]) (by simp [be_len]) r0 (by rw [p4]; exact r1)⟩
 have hlB : (tunB a).length = 9 := by rw [htB]; simp [be_len]
 show tnOk (tunA a) = true ∧ tnG (tunA a) d = _
 rcases h.tk with hk | hk | hk
 · exact absurd hk hp
 · have hA : tunA a = tunB a ++ be a.tg 4 := by unfold tunA tunG; rw [hk, w6_id g0 (by omega)]; rfl
   obtain ⟨c0, c1, c2, c3⟩ := key (be a.tg 4)
   have c4 : tkN (tunB a ++ be a.tg 4) 9 4 = a.tg := tk_at (pre := tunB a) (post := []) (by simp) hlB.symm g0 (by rw [p4]; exact g1)
   rw [hA]
   unfold tnOk tnG
   rw [c0, c1, c2, c3, c4, hk, decide_eq_true (show (tunB a ++ be a.tg 4).length = 13 by rw [List.length_append, hlB, be_len])]
   exact ⟨rfl, rfl⟩
 · have hA : tunA a = tunB a ++ [] := by unfold tunA; rw [hk, List.append_nil]; rfl
   obtain ⟨c0, c1, c2, c3⟩ := key []
   rw [hA]
   unfold tnOk tnG
   have h9 : (tunB a ++ []).length = 9 := by rw [List.append_nil, hlB]
   rw [c0, c1, c2, c3, hk, h.t6 hk, h9]
   exact ⟨rfl, rfl⟩
end
end Go.Proofs.YtdgnhaacdpmclaaGreat
