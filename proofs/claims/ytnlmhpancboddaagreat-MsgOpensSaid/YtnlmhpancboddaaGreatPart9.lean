/- Attributes are read: the next one, known. -/
import Derived.Test.YtnlmhpancboddaaGreatPart8
set_option linter.unusedVariables false
set_option linter.unusedSimpArgs false
namespace Go.Proofs.YtnlmhpancboddaaGreat
open Go.Am
set_option maxRecDepth 100000
def hdN (es : List SV) (a : Nat) : Nat := if andI .u8 (dg es a) 16 ≠ 0 then 4 else 3
def lnN (es : List SV) (a : Nat) : Nat := (tkN es (a + 2) (hdN es a - 2)).toNat
def okN (es : List SV) (a n : Nat) : Prop := a + hdN es a ≤ n ∧ a + hdN es a + lnN es a ≤ n
def cdN (es : List SV) (a n : Nat) : Prop := a < n ∧ n = es.length ∧ n ≤ 1000000 ∧ okBy es
theorem tk1 (es : List SV) (s : Nat) : tkN es s 1 = dg es s := by simp [tkN]
theorem w8_dg {es : List SV} (h : okBy es) (j : Nat) : w8 (dg es j) = dg es j := by
 obtain ⟨h1, h2⟩ := h j
 show IntKind.u8.wrap _ = _
 rw [w8_eq]; omega
theorem adv_bad {r : Rd} (h : (r.err != 0) = true) (k : Nat) : r.adv k = r := by
 unfold Rd.adv; rw [h]; rfl
theorem adv_few {s L k : Nat} (h : ¬ s + k ≤ L) : (RD s L).adv k = ⟨s, L, 4, s⟩ := by
 have hf : (RD s L).few k = true := by unfold Rd.few RD; exact decide_eq_true (by simp only []; omega)
 unfold Rd.adv; rw [hf]; rfl
theorem sub_bad {r : Rd} (h : (r.err != 0) = true) (n : Nat) (k : Int) (K : Chunk → Rd → CTree) : subK r n k K = K (shC r.at_ r.err r.fat) r := by
 unfold subK; rw [h]; rfl
theorem sub_few {s L n : Nat} {k : Int} (h : (k : Int) > L - s) (hs : s ≤ L) (hL : L ≤ 1000000) (K : Chunk → Rd → CTree) : subK (RD s L) n k K = K (shC s 4 s) ⟨s, L, 4, s⟩ := by
 have hsb : shortB (RD s L) k = true := by
  unfold shortB RD
  simp only []
  by_cases h0 : k < 0
  · rw [decide_eq_true h0]; rfl
  · rw [decide_eq_false h0, cond_false, w64_id (by omega) (by omega)]; exact decide_eq_true (by omega)
 unfold subK; rw [hsb]; rfl
theorem sub_ok {s L n k : Nat} (h : s + k ≤ L) (hn : L ≤ n) (hL : n ≤ 1000000) (K : Chunk → Rd → CTree) : subK (RD s L) n (k : Int) K = K (rC (RD s (s + k)) n) (RD (s + k) L) := by
 have hw : wA (RD s L) k = ((s + k : Nat) : Int) := by
  unfold wA RD
  simp only []
  rw [w64_id (by omega) (by omega)]; omega
 have hwb : wB (RD s L) k = (s : Int) := by
  unfold wB
  rw [hw, w64_id (by omega) (by omega)]; omega
 have hsb : shortB (RD s L) k = false := by
  unfold shortB RD
  simp only []
  rw [decide_eq_false (show ¬ (k : Int) < 0 by omega), cond_false, w64_id (by omega) (by omega)]; exact decide_eq_false (by omega)
 have ho : okSl (RD s L) k n = true := by
  unfold okSl
  rw [hw, hwb, decide_eq_true (by omega), decide_eq_true (by omega), decide_eq_true (by omega)]; rfl
 unfold subK
 rw [hsb, ho, hw]; rfl
section
variable {es : List SV} {a n : Nat} (hc : cdN es a n)
include hc
theorem rd_ok {s : Nat} (h : s ≤ n) : OkRd (RD s n) es := by
 obtain ⟨h1, h2, h3, h4⟩ := hc
 exact ⟨by simp [RD], by simp [RD]; omega, by simp [RD]; omega, by omega, h4⟩
theorem rdC_n {r : Rd} (h : OkRd r es) {k : Int} (hk : 0 ≤ k ∧ k ≤ 8) (K : CTree) : rdC r n es k K = K := by
 unfold rdC
 rw [dec_iff.2 ⟨h, hc.2.1, hk.1, hk.2⟩]; rfl
theorem next_ok' (ho : okN es a n) : opn κn Tryz.f98 [.ptr 0 0] (rH (RD a n) n es) =
  .ret (.tup [.agg [.ptr 2 0, .int .i64 a, .int .u8 (dg es a), .int .u8 (dg es (a + 1))], .bool true]) [(0, some (rC (RD (a + hdN es a + lnN es a) n) n)), (2, some (rC (RD (a + hdN es a) (a + hdN es a + lnN es a)) n))] := by
 have h4 := hc.2.2.2
 have h3 := hc.2.2.1
 have hN : (a : Int) < 1000000 := by have := hc.1; omega
 obtain ⟨o1, o2⟩ := ho
 have hh : 3 ≤ hdN es a ∧ hdN es a ≤ 4 := by unfold hdN; split <;> omega
 have e1 : (RD a n).adv 1 = RD (a + 1) n := adv_RD (by omega)
 have e2 : (RD (a + 1) n).adv 1 = RD (a + 2) n := adv_RD (by omega)
 have n1 : (RD a n).num es 1 = dg es a := by rw [num_RD (by omega), tk1]
 have n2 : (RD (a + 1) n).num es 1 = dg es (a + 1) := by rw [num_RD (by omega), tk1]
 have key : ∀ K : Chunk → Rd → CTree, (bif andI .u8 (w8 (dg es a)) 16 != 0 then rdC (RD (a + 2) n) n es 2 (subK ((RD (a + 2) n).adv 2) n (IntKind.i64.wrap ((RD (a + 2) n).num es 2)) K) else rdC (RD (a + 2) n) n es 1 (subK ((RD (a + 2) n).adv 1) n (IntKind.i64.wrap ((RD (a + 2) n).num es 1)) K)) =
   K (rC (RD (a + hdN es a) (a + hdN es a + lnN es a)) n) (RD (a + hdN es a + lnN es a) n) := by
  intro K
  rw [w8_dg h4]
  by_cases hf : andI .u8 (dg es a) 16 ≠ 0
  · have hd : hdN es a = 4 := if_pos hf
    obtain ⟨t1, t2⟩ := tkN_rng h4 (a + 2) 2
    have t3 : (256 : Int) ^ 2 = 65536 := by decide
    have hl : lnN es a = (tkN es (a + 2) 2).toNat := by unfold lnN; rw [hd]
    rw [show (andI .u8 (dg es a) 16 != 0) = true by simpa using hf, cond_true, rdC_n hc (rd_ok hc (by omega)) (by decide), adv_RD (by omega), num_RD (by omega), w64_id (by omega) (by omega),
     show tkN es (a + 2) 2 = ((tkN es (a + 2) 2).toNat : Nat) by omega, ← hl, sub_ok (by omega) (Nat.le_refl _) (by omega), hd]
  · have hd : hdN es a = 3 := if_neg hf
    obtain ⟨t1, t2⟩ := tkN_rng h4 (a + 2) 1
    have t3 : (256 : Int) ^ 1 = 256 := by decide
    have hl : lnN es a = (tkN es (a + 2) 1).toNat := by unfold lnN; rw [hd]
    rw [show (andI .u8 (dg es a) 16 != 0) = false by simpa using hf, cond_false, rdC_n hc (rd_ok hc (by omega)) (by decide), adv_RD (by omega), num_RD (by omega), w64_id (by omega) (by omega),
     show tkN es (a + 2) 1 = ((tkN es (a + 2) 1).toNat : Nat) by omega, ← hl, sub_ok (by omega) (Nat.le_refl _) (by omega), hd]
 rw [next_t, rdC_n hc (rd_ok hc (by omega)) (by decide), e1, rdC_n hc (rd_ok hc (by omega)) (by decide), e2, n1, key]
 unfold nextL
 rw [n1, e1, n2, w8_dg h4, w8_dg h4]
 rfl
theorem next_no (ho : ¬ okN es a n) : ∃ f g c r', opn κn Tryz.f98 [.ptr 0 0] (rH (RD a n) n es) = .ret (.tup [.agg [.ptr 2 0, .int .i64 a, .int .u8 f, .int .u8 g], .bool false]) [(0, some (rC r' n)), (2, some c)] := by
 have h4 := hc.2.2.2
 have h3 := hc.2.2.1
 have h1 := hc.1
 have e1 : (RD a n).adv 1 = RD (a + 1) n := adv_RD (by omega)
 have n1 : (RD a n).num es 1 = dg es a := by rw [num_RD (by omega), tk1]
 have hr1 := rd_ok hc (s := a) (by omega)
 rw [next_t, rdC_n hc hr1 (by decide), rdC_n hc (hr1.adv 1) (by decide), n1, w8_dg h4]
 have hr2 := (hr1.adv 1).adv 1
 have fin : ∀ c (r' : Rd), r'.err = 4 → ∃ f g c' r'', nextL (RD a n) n es c r' = .ret (.tup [.agg [.ptr 2 0, .int .i64 a, .int .u8 f, .int .u8 g], .bool false]) [(0, some (rC r'' n)), (2, some c')] := by
  intro c r' hr
  refine ⟨w8 ((RD a n).num es 1), w8 (((RD a n).adv 1).num es 1), c, r', ?_⟩
  unfold nextL
  rw [hr]; rfl
 have body : ∀ k : Nat, (k = 1 ∨ k = 2) → hdN es a = k + 2 → ∃ f g c r', rdC (((RD a n).adv 1).adv 1) n es k (subK ((((RD a n).adv 1).adv 1).adv k) n (IntKind.i64.wrap ((((RD a n).adv 1).adv 1).num es k)) (nextL (RD a n) n es)) =
   .ret (.tup [.agg [.ptr 2 0, .int .i64 a, .int .u8 f, .int .u8 g], .bool false]) [(0, some (rC r' n)), (2, some c)] := by
  intro k hk hd
  rw [rdC_n hc hr2 (by omega)]
  rw [e1]
  by_cases c2 : a + 2 ≤ n
  · have e2 : (RD (a + 1) n).adv 1 = RD (a + 2) n := adv_RD (by omega)
    rw [e2]
    by_cases c3 : a + 2 + k ≤ n
    · obtain ⟨t1, t2⟩ := tkN_rng h4 (a + 2) k
      have t3 : (256 : Int) ^ k ≤ 65536 := by rcases hk with rfl | rfl <;> decide
      have hl : lnN es a = (tkN es (a + 2) k).toNat := by unfold lnN; rw [hd]; rfl
      have hgt : ¬ a + 2 + k + lnN es a ≤ n := fun hh => ho ⟨by omega, by omega⟩
      rw [adv_RD (by omega), num_RD (by omega), w64_id (by omega) (by omega), sub_few (by omega) (by omega) (by omega)]
      exact fin _ _ rfl
    · rw [adv_few c3, sub_bad rfl]
      exact fin _ _ rfl
  · rw [adv_few (s := a + 1) (k := 1) (by omega), adv_bad rfl, sub_bad rfl]
    exact fin _ _ rfl
 by_cases hf : andI .u8 (dg es a) 16 ≠ 0
 · rw [show (andI .u8 (dg es a) 16 != 0) = true by simpa using hf, cond_true]
   exact body 2 (.inr rfl) (if_pos hf)
 · rw [show (andI .u8 (dg es a) 16 != 0) = false by simpa using hf, cond_false]
   exact body 1 (.inl rfl) (if_neg hf)
end
end Go.Proofs.YtnlmhpancboddaaGreat
/- Attributes are read: the result, numbers. -/
namespace Go.Proofs.YtnlmhpancboddaaGreat
open Go.Am
set_option maxRecDepth 100000
structure Ds where
 (ori nx med prf orr tk tl tr tg : Int) (hm hp ho : Bool) (path cl cm rch unr : List SV)
def nz : Bool → Nat → List SV → SV
 | true, _, _ => .nils
 | false, e, l => .psl e l
def dL (pb cb mb : Bool) (d : Ds) : List SV := [.int .i64 d.ori, nz pb 36 d.path, .int .u32 d.nx, .bool d.hm, .int .u32 d.med, .bool d.hp, .int .u32 d.prf, .bool d.ho, .int .u32 d.orr, nz cb 37 d.cl, nz mb 136 d.cm, .int .i64 d.tk, .int .u32 d.tl, .int .u32 d.tr, .int .u32 d.tg, .psl 88 d.rch, .psl 88 d.unr]
abbrev dC (pb cb mb : Bool) (d : Ds) : Chunk := .cells 177 (dL pb cb mb d)
def nmH (r : Rd) (n : Nat) (es : List SV) (sz lim : Int) (f : Nat) (pb cb mb : Bool) (d : Ds) : HpL :=
 [(0, rC r n), (1, .seq 5 es), (2, .cells 3 [.int .i64 sz]), (3, .cells 63 [.int .u64 lim]), (4, .cells 205 [.fn (.func f) [] [.ptr 5 0]]), (5, .cells 203 [.ptr 6 0]), (6, dC pb cb mb d)]
def nmA (off fl cd : Int) : List SV := [.agg [.ptr 0 0, .int .i64 off, .int .u8 fl, .int .u8 cd], .ptr 2 0, .ptr 3 0, .ptr 4 0]
noncomputable def nmT (r : Rd) (n : Nat) (es : List SV) (sz : Nat) (lim : Int) (pb cb mb : Bool) (d : Int → Ds) : CTree :=
 bif IntKind.i64.wrap (r.end_ - r.at_) != sz then .ret (.bool false) [] else rdC r n es sz (bif decide (r.num es sz > lim) then .ret (.bool false) [(0, some (rC (r.adv sz) n))] else
  .ret (.bool true) [(6, some (dC pb cb mb (d (r.num es sz)))), (0, some (rC (r.adv sz) n))])
def d1 (d : Ds) (x : Int) : Ds := { d with ori := IntKind.i64.wrap x }
def d4 (d : Ds) (x : Int) : Ds := { d with hm := true, med := w3 x }
def d5 (d : Ds) (x : Int) : Ds := { d with hp := true, prf := w3 x }
def d9 (d : Ds) (x : Int) : Ds := { d with ho := true, orr := w3 x }
theorem nm_t1 (r : Rd) (n : Nat) (es : List SV) (off fl cd : Int) (pb cb mb : Bool) (d : Ds) : opn κn Tryz.f135 (nmA off fl cd) (nmH r n es 1 2 112 pb cb mb d) = nmT r n es 1 2 pb cb mb (d1 d) := by
 cases pb <;> cases cb <;> cases mb <;> kernel_rfl
theorem nm_t4 (r : Rd) (n : Nat) (es : List SV) (off fl cd : Int) (pb cb mb : Bool) (d : Ds) : opn κn Tryz.f135 (nmA off fl cd) (nmH r n es 4 4294967295 115 pb cb mb d) = nmT r n es 4 4294967295 pb cb mb (d4 d) := by
 cases pb <;> cases cb <;> cases mb <;> kernel_rfl
theorem nm_t5 (r : Rd) (n : Nat) (es : List SV) (off fl cd : Int) (pb cb mb : Bool) (d : Ds) : opn κn Tryz.f135 (nmA off fl cd) (nmH r n es 4 4294967295 116 pb cb mb d) = nmT r n es 4 4294967295 pb cb mb (d5 d) := by
 cases pb <;> cases cb <;> cases mb <;> kernel_rfl
theorem nm_t9 (r : Rd) (n : Nat) (es : List SV) (off fl cd : Int) (pb cb mb : Bool) (d : Ds) : opn κn Tryz.f135 (nmA off fl cd) (nmH r n es 4 4294967295 117 pb cb mb d) = nmT r n es 4 4294967295 pb cb mb (d9 d) := by
 cases pb <;> cases cb <;> cases mb <;> kernel_rfl
end Go.Proofs.YtnlmhpancboddaaGreat
/- Attributes are read: numbers, known. -/
namespace Go.Proofs.YtnlmhpancboddaaGreat
open Go.Am
set_option maxRecDepth 100000
theorem coV_jk {P : Program} {v : SV} : CoV P v .junk := fun _ _ _ _ _ _ => .junk
theorem coL_jk {P : Program} : ∀ (vs : List SV), CoL P vs (List.replicate vs.length .junk)
 | [] => .nil
 | _ :: vs => .cons coV_jk (coL_jk vs)
def jk : Chunk := .cells 177 [.junk, .junk, .junk, .junk, .junk, .junk, .junk, .junk, .junk, .junk, .junk, .junk, .junk, .junk, .junk, .junk, .junk]
theorem jk_of {pb cb mb : Bool} {d : Ds} {x : Nat} : CoC Tryz.prog x (dC pb cb mb d) jk := .cells (coL_jk (dL pb cb mb d))
def zP : SV → Option (Bool × List SV)
 | .nils => some (true, [])
 | .psl _ l => some (false, l)
 | _ => none
def dP : List SV → Option (Bool × Bool × Bool × Ds)
 | [.int .i64 ori, p, .int .u32 nx, .bool hm, .int .u32 med, .bool hp, .int .u32 prf, .bool ho, .int .u32 orr, c, m, .int .i64 tk, .int .u32 tl, .int .u32 tr, .int .u32 tg, .psl 88 rch, .psl 88 unr] =>
  match zP p, zP c, zP m with
  | some (pb, path), some (cb, cl), some (mb, cm) => some (pb, cb, mb, ⟨ori, nx, med, prf, orr, tk, tl, tr, tg, hm, hp, ho, path, cl, cm, rch, unr⟩)
  | _, _, _ => none
 | _ => none
def vl (es : List SV) (s e : Nat) : List SV := sl es s (e - s)
def okV (es : List SV) (n s e : Nat) : Prop := byl es ∧ n = es.length ∧ n ≤ 1000000 ∧ s ≤ e ∧ e ≤ n
theorem tkN_sl {es : List SV} {s m : Nat} : ∀ k, k ≤ m → tkN es s k = tkN (sl es s m) 0 k
 | 0, _ => rfl
 | k + 1, h => by
  rw [tkN, tkN, tkN_sl (m := m) k (by omega), Nat.zero_add, sl_dg (es := es) (l := s) (n := m) (j := k) (by omega)]
theorem okV.rd {es : List SV} {n s e : Nat} (h : okV es n s e) : OkRd (RD s e) es := by
 obtain ⟨h1, h2, h3, h4, h5⟩ := h
 exact ⟨by simp [RD], by simp [RD]; omega, by simp [RD]; omega, by omega, h1.ok⟩
theorem okV.len {es : List SV} {n s e : Nat} (h : okV es n s e) : (vl es s e).length = e - s := by
 obtain ⟨h1, h2, h3, h4, h5⟩ := h
 exact sl_len (by omega)
def nmF (f : Nat) : Ds → Int → Ds := bif Nat.beq f 112 then d1 else bif Nat.beq f 115 then d4 else bif Nat.beq f 116 then d5 else d9
def nmLim (f : Nat) : Int := bif Nat.beq f 112 then 2 else 4294967295
def nmZ (f : Nat) : Nat := bif Nat.beq f 112 then 1 else 4
def nmOk (f : Nat) (v : List SV) : Bool := decide (v.length = nmZ f) && decide (tkN v 0 (nmZ f) ≤ nmLim f)
noncomputable def nm_s : CSumm := fun args H => match args, H with
 | [.agg [.ptr 0 0, .int .i64 off, .int .u8 fl, .int .u8 cd], .ptr 2 0, .ptr 3 0, .ptr 4 0], [(0, .cells 157 [.int .i64 a, .int .i64 e, .qs 1 1 0 n, _, _, _]), (1, .seq 5 es), (2, _), (3, _), (4, .cells 205 [.fn (.func f) _ _]), (5, _), (6, .cells 177 cs)] =>
  match dP cs with
  | some (pb, cb, mb, d) => .ite (dec (H = nmH (RD a.toNat e.toNat) n es (nmZ f) (nmLim f) f pb cb mb d ∧ okV es n a.toNat e.toNat ∧ (f = 112 ∨ f = 115 ∨ f = 116 ∨ f = 117)))
    (.ite (nmOk f (vl es a.toNat e.toNat)) (.ret (.bool true) [(6, some (dC pb cb mb (nmF f d (tkN (vl es a.toNat e.toNat) 0 (nmZ f))))), (0, none)]) (.ret (.bool false) [(6, some jk), (0, none)])) .fail
  | none => .fail
 | _, _ => .fail
theorem told_but {H : HpL} {c : Chunk} {c0 c6 : Chunk} (h6 : CoC Tryz.prog 6 c6 c) {ups : List (Nat × Option Chunk)} (hu : updF ups H.get 6 = some c6) (ho : ∀ x, x ≠ 0 → x ≠ 6 → updF ups H.get x = H.get x) : ∀ x c', updF [(6, some c), (0, none)] H.get x = some c' → ∃ c, updF ups H.get x = some c ∧ CoC Tryz.prog x c c' := by
 intro x c' hx
 simp only [updF] at hx
 by_cases h0 : x = 0
 · rw [if_pos h0] at hx; cases hx
 · rw [if_neg h0] at hx
   by_cases hx6 : x = 6
   · subst hx6; rw [if_pos rfl] at hx; cases hx; exact ⟨c6, hu, h6⟩
   · rw [if_neg hx6] at hx; exact ⟨c', by rw [ho x h0 hx6]; exact hx, .rfl'⟩
theorem nm_t {f : Nat} (hf : f = 112 ∨ f = 115 ∨ f = 116 ∨ f = 117) (r : Rd) (n : Nat) (es : List SV) (off fl cd : Int) (pb cb mb : Bool) (d : Ds) : opn κn Tryz.f135 (nmA off fl cd) (nmH r n es (nmZ f) (nmLim f) f pb cb mb d) = nmT r n es (nmZ f) (nmLim f) pb cb mb (nmF f d) := by
 rcases hf with rfl | rfl | rfl | rfl
 · exact nm_t1 ..
 · exact nm_t4 ..
 · exact nm_t5 ..
 · exact nm_t9 ..
theorem nm_k : Known Tryz.prog 135 nm_s := known_told (openKnown nOk Tryz.func135 rfl) (by
 intro args H v' ups' h
 unfold nm_s at h
 split at h
 · rename_i off fl cd a e n x1 x2 x3 es x4 x5 f x6 x7 x8 cs
   split at h
   · rename_i pb cb mb d hd
     rw [crun_ite] at h
     cases hc : dec _ with
     | false => rw [hc] at h; cases h
     | true =>
      rw [hc, cond_true, crun_ite] at h
      obtain ⟨hH, ho, hf⟩ := dec_iff.1 hc
      rw [hH]
      generalize a.toNat = s at *
      generalize e.toNat = t at *
      have ht := nm_t hf (RD s t) n es off fl cd pb cb mb d
      have hz : nmZ f = 1 ∨ nmZ f = 4 := by rcases hf with rfl | rfl | rfl | rfl <;> decide
      have hl := ho.len
      obtain ⟨h1, h2, h3, h4, h5⟩ := ho
      have hw : IntKind.i64.wrap ((RD s t).end_ - (RD s t).at_) = ((t - s : Nat) : Int) := by
       unfold RD; simp only []
       rw [w64_id (by omega) (by omega)]; omega
      unfold nmT at ht
      rw [hw] at ht
      by_cases hq : t - s = nmZ f
      · rw [show (((t - s : Nat) : Int) != ((nmZ f : Nat) : Int)) = false by simp; omega, cond_false] at ht
        unfold rdC at ht
        rw [dec_iff.2 ⟨okV.rd ⟨h1, h2, h3, h4, h5⟩, h2, by omega, by omega⟩, cond_true, num_RD (by omega), tkN_sl (es := es) (s := s) (m := t - s) (nmZ f) (by omega)] at ht
        change _ = bif decide (tkN (vl es s t) 0 (nmZ f) > nmLim f) then _ else CTree.ret (.bool true) [(6, some (dC pb cb mb (nmF f d (tkN (vl es s t) 0 (nmZ f))))), _] at ht
        by_cases hm : tkN (vl es s t) 0 (nmZ f) ≤ nmLim f
        · rw [decide_eq_false (by omega), cond_false] at ht
          rw [show nmOk f (vl es s t) = true by unfold nmOk; rw [hl, decide_eq_true hq, decide_eq_true hm]; rfl] at h
          cases h
          refine ⟨_, _, congrArg crun ht, .inr ⟨.rfl', told_but (c0 := jk) .rfl' rfl (fun x h0 h6 => ?_)⟩⟩
          simp only [updF, h0, h6, if_false]
        · rw [decide_eq_true (by omega), cond_true] at ht
          rw [show nmOk f (vl es s t) = false by unfold nmOk; rw [decide_eq_false hm]; simp] at h
          cases h
          refine ⟨_, _, congrArg crun ht, .inr ⟨.rfl', told_but (c0 := jk) jk_of rfl (fun x h0 h6 => ?_)⟩⟩
          simp only [updF, h0, if_false]
      · rw [show (((t - s : Nat) : Int) != ((nmZ f : Nat) : Int)) = true by simp; omega, cond_true] at ht
        rw [show nmOk f (vl es s t) = false by unfold nmOk; rw [hl, decide_eq_false hq]; rfl] at h
        cases h
        exact ⟨_, _, congrArg crun ht, .inr ⟨.rfl', told_but (c0 := jk) jk_of rfl (fun x h0 h6 => rfl)⟩⟩
   · cases h
 · cases h)
end Go.Proofs.YtnlmhpancboddaaGreat
/- Attributes are read: the tunnel. -/
namespace Go.Proofs.YtnlmhpancboddaaGreat
open Go.Am
set_option maxRecDepth 100000
def flH (r : Rd) (n : Nat) (es : List SV) (pb cb mb : Bool) (d : Ds) : HpL := [(0, rC r n), (1, .seq 5 es), (2, .cells 203 [.ptr 3 0]), (3, dC pb cb mb d)]
def flA (off fl cd : Int) : List SV := [.agg [.ptr 0 0, .int .i64 off, .int .u8 fl, .int .u8 cd], .ptr 2 0]
noncomputable def un_s (k : Nat) : CSumm := fun args H => match args with
 | [.ptr 0 0] => match rOf H with
  | some (r, n, es) => .ite (dec (OkRd r es ∧ n = es.length)) (.ret (.int .u64 (r.num es k)) [(0, some (rC (r.adv k) n))]) .fail
  | none => .fail
 | _ => .fail
theorem un_of {f k : Nat} {fn : Func} (hf : Tryz.prog.funcs[f]? = some fn) (hb : fn.body.isNone = false) (hk : k ≤ 8)
  (ht : ∀ r n es, opn κn fn [.ptr 0 0] (rH r n es) = rdC r n es k (.ret (.int .u64 (r.num es k)) [(0, some (rC (r.adv k) n))])) : Known Tryz.prog f (un_s k) := (openKnown nOk hf hb).weak (by
 intro args H v ups h
 unfold un_s at h
 split at h
 · split at h
   · rename_i r n es hr
     rw [crun_ite] at h
     cases hc : dec (OkRd r es ∧ n = es.length) with
     | false => rw [hc] at h; cases h
     | true =>
      rw [hc, cond_true] at h
      obtain ⟨h1, h2⟩ := dec_iff.1 hc
      rw [rOf_h hr]
      refine (congrArg crun (ht r n es)).trans ?_
      unfold rdC
      rw [dec_iff.2 ⟨h1, h2, by omega, by omega⟩]
      exact h
   · cases h
 · cases h)
theorem u8_n : Known Tryz.prog 49 (un_s 1) := un_of Tryz.func49 rfl (by decide) (fun r n es => by kernel_rfl)
theorem u24_n : Known Tryz.prog 123 (un_s 3) := un_of Tryz.func123 rfl (by decide) (fun r n es => by kernel_rfl)
theorem u32_n : Known Tryz.prog 70 (un_s 4) := un_of Tryz.func70 rfl (by decide) (fun r n es => by kernel_rfl)
noncomputable abbrev κu := tbl [(49, un_s 1), (123, un_s 3), (70, un_s 4), (126, byR_s)]
theorem uOk : KOk Tryz.prog κu := tbl_cons u8_n (tbl_cons u24_n (tbl_cons u32_n (tbl_cons byR_k ok0)))
end Go.Proofs.YtnlmhpancboddaaGreat
/- Attributes are read: what reads a value, the tunnel. -/
namespace Go.Proofs.YtnlmhpancboddaaGreat
open Go.Am
set_option maxRecDepth 100000
noncomputable def fl_s (pre : Bool → Bool → Bool → Bool) (ok : List SV → Bool) (g : List SV → Ds → Ds) (fp fc fm : Bool → Bool) : CSumm := fun args H => match args, H with
 | [.agg [.ptr 0 0, .int .i64 off, .int .u8 fl, .int .u8 cd], .ptr 2 0], [(0, .cells 157 [.int .i64 a, .int .i64 e, .qs 1 1 0 n, _, _, _]), (1, .seq 5 es), (2, _), (3, .cells 177 cs)] =>
  match dP cs with
  | some (pb, cb, mb, d) => .ite (dec (H = flH (RD a.toNat e.toNat) n es pb cb mb d ∧ okV es n a.toNat e.toNat ∧ pre pb cb mb = true))
    (.ite (ok (vl es a.toNat e.toNat)) (.ret (.bool true) [(3, some (dC (fp pb) (fc cb) (fm mb) (g (vl es a.toNat e.toNat) d))), (0, none)]) (.ret (.bool false) [(3, some jk), (0, none)])) .fail
  | none => .fail
 | _, _ => .fail
theorem fl_of {f : Nat} {s0 : CSumm} {pre : Bool → Bool → Bool → Bool} {ok : List SV → Bool} {g : List SV → Ds → Ds} {fp fc fm : Bool → Bool} (h0 : Known Tryz.prog f s0)
  (ht : ∀ s t n es off fl cd pb cb mb d, okV es n s t → pre pb cb mb = true → ∃ v ups, crun (s0 (flA off fl cd) (flH (RD s t) n es pb cb mb d)) = some (v, ups) ∧
   (Frozen Tryz.prog (flH (RD s t) n es pb cb mb d) v ups (.bool (ok (vl es s t))) (bif ok (vl es s t) then [(3, some (dC (fp pb) (fc cb) (fm mb) (g (vl es s t) d))), (0, none)] else [(3, some jk), (0, none)]) ∨
    Am.Told Tryz.prog (flH (RD s t) n es pb cb mb d) v ups (.bool (ok (vl es s t))) (bif ok (vl es s t) then [(3, some (dC (fp pb) (fc cb) (fm mb) (g (vl es s t) d))), (0, none)] else [(3, some jk), (0, none)]))) :
  Known Tryz.prog f (fl_s pre ok g fp fc fm) := known_told h0 (by
 intro args H v' ups' h
 unfold fl_s at h
 split at h
 · rename_i off fl cd a e n x1 x2 x3 es x4 cs
   split at h
   · rename_i pb cb mb d hd
     rw [crun_ite] at h
     cases hc : dec _ with
     | false => rw [hc] at h; cases h
     | true =>
      rw [hc, cond_true, crun_ite] at h
      obtain ⟨hH, ho, hp⟩ := dec_iff.1 hc
      rw [hH]
      have := ht a.toNat e.toNat n es off fl cd pb cb mb d ho hp
      cases hk : ok (vl es a.toNat e.toNat) with
      | true => rw [hk] at h this; cases h; exact this
      | false => rw [hk] at h this; cases h; exact this
   · cases h
 · cases h)
theorem told3 {H : HpL} {c c3 : Chunk} (h3 : CoC Tryz.prog 3 c3 c) {ups : List (Nat × Option Chunk)} (hu : updF ups H.get 3 = some c3) (ho : ∀ x, x ≠ 0 → x ≠ 3 → updF ups H.get x = H.get x) : ∀ x c', updF [(3, some c), (0, none)] H.get x = some c' → ∃ c, updF ups H.get x = some c ∧ CoC Tryz.prog x c c' := by
 intro x c' hx
 simp only [updF] at hx
 by_cases h0 : x = 0
 · rw [if_pos h0] at hx; cases hx
 · rw [if_neg h0] at hx
   by_cases hx6 : x = 3
   · subst hx6; rw [if_pos rfl] at hx; cases hx; exact ⟨c3, hu, h3⟩
   · rw [if_neg hx6] at hx; exact ⟨c', by rw [ho x h0 hx6]; exact hx, .rfl'⟩
noncomputable def ruC (r : Rd) (n : Nat) (es : List SV) (K : CTree) : CTree := bif dec (OkRd r es ∧ n = es.length) then K else .fail
def dT (d : Ds) (k l r g : Int) : Ds := { d with tk := k, tl := l, tr := r, tg := g }
def tnB (r0 k : Int) (r : Rd) : Bool := bif (bif (bif r0 == 0 then (bif k == 3 then true else k == 6) else false) then IntKind.i64.wrap (r.end_ - r.at_) == 0 else false) then r.err == 0 else false
noncomputable def tnT (r : Rd) (n : Nat) (es : List SV) (pb cb mb : Bool) (d : Ds) : CTree :=
 ruC r n es (ruC (r.adv 1) n es (ruC ((r.adv 1).adv 1) n es (ruC (((r.adv 1).adv 1).adv 3) n es (
  bif IntKind.i64.wrap ((r.adv 1).num es 1) == 3 then ruC ((((r.adv 1).adv 1).adv 3).adv 4) n es (.ret (.bool (tnB (r.num es 1) (IntKind.i64.wrap ((r.adv 1).num es 1)) (((((r.adv 1).adv 1).adv 3).adv 4).adv 4)))
   [(3, some (dC pb cb mb (dT d (IntKind.i64.wrap ((r.adv 1).num es 1)) (w3 (((r.adv 1).adv 1).num es 3)) (w3 ((((r.adv 1).adv 1).adv 3).num es 4)) (w3 (((((r.adv 1).adv 1).adv 3).adv 4).num es 4))))), (0, some (rC (((((r.adv 1).adv 1).adv 3).adv 4).adv 4) n))])
  else .ret (.bool (tnB (r.num es 1) (IntKind.i64.wrap ((r.adv 1).num es 1)) ((((r.adv 1).adv 1).adv 3).adv 4)))
   [(3, some (dC pb cb mb (dT d (IntKind.i64.wrap ((r.adv 1).num es 1)) (w3 (((r.adv 1).adv 1).num es 3)) (w3 ((((r.adv 1).adv 1).adv 3).num es 4)) 0))), (0, some (rC ((((r.adv 1).adv 1).adv 3).adv 4) n))]))))
theorem tn_t (r : Rd) (n : Nat) (es : List SV) (off fl cd : Int) (pb cb mb : Bool) (d : Ds) : opn κu Tryz.f127 (flA off fl cd) (flH r n es pb cb mb d) = tnT r n es pb cb mb d := by
 cases pb <;> cases cb <;> cases mb <;> kernel_rfl
end Go.Proofs.YtnlmhpancboddaaGreat
