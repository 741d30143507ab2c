/- The reference's Read of routes. -/
import Derived.Test.YtdgnhaacdpmclaaGreatPart6
namespace Go.Proofs.YtdgnhaacdpmclaaGreat
open Go.Am
set_option maxRecDepth 100000
def fs111 : List (Option (Nat × Nat)) := [none, none, some (49, 21), none]
noncomputable def e111i : LEnt := { e111 with s := inS fs111 rl_s }
theorem rl_in : ValidL Tryz.prog e111i := loop_in rl_valid (fs := fs111) ⟨fun h => absurd h (by decide), trivial⟩
noncomputable abbrev T111 : LTab := ltab [("r", e111i)]
noncomputable abbrev m111 : Code := markC [(3, "r")] body111
noncomputable def rread_b : CSumm := bodyCL Tryz.prog κw ιw T111 true 300 Tryz.f111 m111
theorem rread_k0 : Known Tryz.prog 111 rread_b := ⟨⟨Tryz.f111, Tryz.func111, noNum_at noNumTry Tryz.func111, rfl⟩, bodyL_valid (openT_ok noNumTry mixTry vOk 300 5) mixTry (ltab_cons rl_in ltab_nil) Tryz.func111 (show Tryz.f111.body = some (fillC T111 m111) by kernel_rfl)⟩
noncomputable def rreadK (r : Int × Int × List SV) : CTree := bif r.1 == 0 then .ret (.tup [.qs 0 21 0 r.2.2.length, .agg [.int .i64 0, .int .i64 0]]) [(0, some (.seq 49 r.2.2))] else .ret (.tup [.nils, .agg [.int .i64 r.1, .int .i64 r.2.1]]) []
theorem rread_t (p : List SV) : rread_b [.psl 5 p] [] = bif dec (byl p ∧ p.length ≤ 1000000 ∧ 0 = ([] : List SV).length ∧ ([] : List SV).length ≤ 4096 ∧ (0 : Int) ≤ 0 ∧ (0 : Int) ≤ p.length) then rreadK (pcsL (p.drop (0 : Int).toNat) 0 []) else .fail := by kernel_rfl
noncomputable def rread_s : CSumm := fun args H => match args, H with
 | [.psl 5 p], [] => .ite (dec (byl p ∧ p.length ≤ 1000000)) (.ret (.tup [.psl 49 (rdL p), .agg [.int .i64 (rdE p), .int .i64 (rdA p)]]) []) .fail
 | _, _ => .fail
theorem rread_k : Known Tryz.prog 111 rread_s := known_told rread_k0 (by
 intro args H v' ups' h
 unfold rread_s at h
 split at h
 · rename_i p
   rw [crun_ite] at h
   cases hc : dec (byl p ∧ p.length ≤ 1000000) with
   | false => rw [hc] at h; cases h
   | true =>
    rw [hc] at h
    obtain ⟨h1, h2⟩ := dec_iff.1 hc
    have ht := rread_t p
    rw [dec_iff.2 ⟨h1, h2, rfl, by simp, by omega, by omega⟩, cond_true, show p.drop (0 : Int).toNat = p from rfl] at ht
    unfold rdL rdE rdA at h
    cases h
    generalize pcsL p 0 [] = r at ht ⊢
    unfold rreadK at ht
    have hg : ∀ x c', HpL.get [] x ≠ some c' := fun x c' hx => by simp [HpL.get] at hx
    by_cases he : r.1 = 0
    · rw [show (r.1 == 0) = true by simpa using he] at ht
      rw [if_pos he, if_pos he, he]
      exact ⟨_, _, congrArg crun ht, .inl ⟨0, 49, r.2.2, rfl, .tup (.cons (.qs rfl) .rfl'), fun x c' hx => absurd hx (hg x c')⟩⟩
    · rw [show (r.1 == 0) = false by simpa using he] at ht
      rw [if_neg he, if_neg he]
      exact ⟨_, _, congrArg crun ht, .inr ⟨.tup (.cons .nils .rfl'), fun x c' hx => ⟨c', hx, .rfl'⟩⟩⟩
 · cases h)
end Go.Proofs.YtdgnhaacdpmclaaGreat
/- Attributes are read: the next one. -/
namespace Go.Proofs.YtdgnhaacdpmclaaGreat
open Go.Am
set_option maxRecDepth 100000
noncomputable abbrev κn := tbl [(91, num_s)]
theorem nOk : KOk Tryz.prog κn := tbl_cons num_k ok0
def shC (a e f : Int) : Chunk := .cells 121 [.int .i64 a, .int .i64 a, .nils, .int .i64 e, .int .i64 f, .bool true]
def subK (r : Rd) (n : Nat) (k : Int) (K : Chunk → Rd → CTree) : CTree :=
 bif r.err != 0 then K (shC r.at_ r.err r.fat) r else bif shortB r k then (bif r.err == 0 then K (shC r.at_ 4 r.at_) ⟨r.at_, r.end_, 4, r.at_⟩ else K (shC r.at_ r.err r.fat) r) else
 bif okSl r k n then K (rC ⟨r.at_, wA r k, 0, 0⟩ n) ⟨wA r k, r.end_, r.err, r.fat⟩ else .fail
def andI (k : IntKind) (a b : Int) : Int := k.wrap ((BitVec.ofInt k.bits a &&& BitVec.ofInt k.bits b).toNat : Int)
abbrev w8 (n : Int) : Int := IntKind.u8.wrap n
def nextL (r : Rd) (n : Nat) (es : List SV) (c : Chunk) (r' : Rd) : CTree :=
 .ret (.tup [.agg [.ptr 2 0, .int .i64 r.at_, .int .u8 (w8 (r.num es 1)), .int .u8 (w8 ((r.adv 1).num es 1))], .bool (r'.err == 0)]) [(0, some (rC r' n)), (2, some c)]
theorem next_t (r : Rd) (n : Nat) (es : List SV) : opn κn Tryz.f24 [.ptr 0 0] (rH r n es) =
 rdC r n es 1 (rdC (r.adv 1) n es 1 (bif andI .u8 (w8 (r.num es 1)) 16 != 0 then rdC ((r.adv 1).adv 1) n es 2 (subK (((r.adv 1).adv 1).adv 2) n (IntKind.i64.wrap (((r.adv 1).adv 1).num es 2)) (nextL r n es))
  else rdC ((r.adv 1).adv 1) n es 1 (subK (((r.adv 1).adv 1).adv 1) n (IntKind.i64.wrap (((r.adv 1).adv 1).num es 1)) (nextL r n es)))) := by kernel_rfl
end Go.Proofs.YtdgnhaacdpmclaaGreat
/- Attributes are read: the next one, known. -/
namespace Go.Proofs.YtdgnhaacdpmclaaGreat
open Go.Am
set_option maxRecDepth 100000
def hdN (es : List SV) (a : Nat) : Nat := if andI .u8 (dg es a) 16 ≠ 0 then 4 else 3
def lnN (es : List SV) (a : Nat) : Nat := (tkN es (a + 2) (hdN es a - 2)).toNat
def okN (es : List SV) (a n : Nat) : Prop := a + hdN es a ≤ n ∧ a + hdN es a + lnN es a ≤ n
def cdN (es : List SV) (a n : Nat) : Prop := a < n ∧ n = es.length ∧ n ≤ 1000000 ∧ okBy es
theorem tk1 (es : List SV) (s : Nat) : tkN es s 1 = dg es s := by simp [tkN]
theorem w8_dg {es : List SV} (h : okBy es) (j : Nat) : w8 (dg es j) = dg es j := by
 obtain ⟨h1, h2⟩ := h j
 show IntKind.u8.wrap _ = _
 rw [w8_eq]; omega
theorem adv_bad {r : Rd} (h : (r.err != 0) = true) (k : Nat) : r.adv k = r := by
 unfold Rd.adv; rw [h]; rfl
theorem adv_few {s L k : Nat} (h : ¬ s + k ≤ L) : (RD s L).adv k = ⟨s, L, 4, s⟩ := by
 have hf : (RD s L).few k = true := by unfold Rd.few RD; exact decide_eq_true (by simp only []; omega)
 unfold Rd.adv; rw [hf]; rfl
theorem sub_bad {r : Rd} (h : (r.err != 0) = true) (n : Nat) (k : Int) (K : Chunk → Rd → CTree) : subK r n k K = K (shC r.at_ r.err r.fat) r := by
 unfold subK; rw [h]; rfl
theorem sub_few {s L n : Nat} {k : Int} (h : (k : Int) > L - s) (hs : s ≤ L) (hL : L ≤ 1000000) (K : Chunk → Rd → CTree) : subK (RD s L) n k K = K (shC s 4 s) ⟨s, L, 4, s⟩ := by
 have hsb : shortB (RD s L) k = true := by
  unfold shortB RD
  simp only []
  by_cases h0 : k < 0
  · rw [decide_eq_true h0]; rfl
  · rw [decide_eq_false h0, cond_false, w64_id (by omega) (by omega)]; exact decide_eq_true (by omega)
 unfold subK; rw [hsb]; rfl
theorem sub_ok {s L n k : Nat} (h : s + k ≤ L) (hn : L ≤ n) (hL : n ≤ 1000000) (K : Chunk → Rd → CTree) : subK (RD s L) n (k : Int) K = K (rC (RD s (s + k)) n) (RD (s + k) L) := by
 have hw : wA (RD s L) k = ((s + k : Nat) : Int) := by
  unfold wA RD
  simp only []
  rw [w64_id (by omega) (by omega)]; omega
 have hwb : wB (RD s L) k = (s : Int) := by
  unfold wB
  rw [hw, w64_id (by omega) (by omega)]; omega
 have hsb : shortB (RD s L) k = false := by
  unfold shortB RD
  simp only []
  rw [decide_eq_false (show ¬ (k : Int) < 0 by omega), cond_false, w64_id (by omega) (by omega)]; exact decide_eq_false (by omega)
 have ho : okSl (RD s L) k n = true := by
  unfold okSl
  rw [hw, hwb, decide_eq_true (by omega), decide_eq_true (by omega), decide_eq_true (by omega)]; rfl
 unfold subK
 rw [hsb, ho, hw]; rfl
section
variable {es : List SV} {a n : Nat} (hc : cdN es a n)
include hc
theorem rd_ok {s : Nat} (h : s ≤ n) : OkRd (RD s n) es := by
 obtain ⟨h1, h2, h3, h4⟩ := hc
 exact ⟨by simp [RD], by simp [RD]; omega, by simp [RD]; omega, by omega, h4⟩
theorem rdC_n {r : Rd} (h : OkRd r es) {k : Int} (hk : 0 ≤ k ∧ k ≤ 8) (K : CTree) : rdC r n es k K = K := by
 unfold rdC
 rw [dec_iff.2 ⟨h, hc.2.1, hk.1, hk.2⟩]; rfl
theorem next_ok' (ho : okN es a n) : opn κn Tryz.f24 [.ptr 0 0] (rH (RD a n) n es) =
  .ret (.tup [.agg [.ptr 2 0, .int .i64 a, .int .u8 (dg es a), .int .u8 (dg es (a + 1))], .bool true]) [(0, some (rC (RD (a + hdN es a + lnN es a) n) n)), (2, some (rC (RD (a + hdN es a) (a + hdN es a + lnN es a)) n))] := by
 have h4 := hc.2.2.2
 have h3 := hc.2.2.1
 have hN : (a : Int) < 1000000 := by have := hc.1; omega
 obtain ⟨o1, o2⟩ := ho
 have hh : 3 ≤ hdN es a ∧ hdN es a ≤ 4 := by unfold hdN; split <;> omega
 have e1 : (RD a n).adv 1 = RD (a + 1) n := adv_RD (by omega)
 have e2 : (RD (a + 1) n).adv 1 = RD (a + 2) n := adv_RD (by omega)
 have n1 : (RD a n).num es 1 = dg es a := by rw [num_RD (by omega), tk1]
 have n2 : (RD (a + 1) n).num es 1 = dg es (a + 1) := by rw [num_RD (by omega), tk1]
 have key : ∀ K : Chunk → Rd → CTree, (bif andI .u8 (w8 (dg es a)) 16 != 0 then rdC (RD (a + 2) n) n es 2 (subK ((RD (a + 2) n).adv 2) n (IntKind.i64.wrap ((RD (a + 2) n).num es 2)) K) else rdC (RD (a + 2) n) n es 1 (subK ((RD (a + 2) n).adv 1) n (IntKind.i64.wrap ((RD (a + 2) n).num es 1)) K)) =
   K (rC (RD (a + hdN es a) (a + hdN es a + lnN es a)) n) (RD (a + hdN es a + lnN es a) n) := by
  intro K
  rw [w8_dg h4]
  by_cases hf : andI .u8 (dg es a) 16 ≠ 0
  · have hd : hdN es a = 4 := if_pos hf
    obtain ⟨t1, t2⟩ := tkN_rng h4 (a + 2) 2
    have t3 : (256 : Int) ^ 2 = 65536 := by decide
    have hl : lnN es a = (tkN es (a + 2) 2).toNat := by unfold lnN; rw [hd]
    rw [show (andI .u8 (dg es a) 16 != 0) = true by simpa using hf, cond_true, rdC_n hc (rd_ok hc (by omega)) (by decide), adv_RD (by omega), num_RD (by omega), w64_id (by omega) (by omega),
     show tkN es (a + 2) 2 = ((tkN es (a + 2) 2).toNat : Nat) by omega, ← hl, sub_ok (by omega) (Nat.le_refl _) (by omega), hd]
  · have hd : hdN es a = 3 := if_neg hf
    obtain ⟨t1, t2⟩ := tkN_rng h4 (a + 2) 1
    have t3 : (256 : Int) ^ 1 = 256 := by decide
    have hl : lnN es a = (tkN es (a + 2) 1).toNat := by unfold lnN; rw [hd]
    rw [show (andI .u8 (dg es a) 16 != 0) = false by simpa using hf, cond_false, rdC_n hc (rd_ok hc (by omega)) (by decide), adv_RD (by omega), num_RD (by omega), w64_id (by omega) (by omega),
     show tkN es (a + 2) 1 = ((tkN es (a + 2) 1).toNat : Nat) by omega, ← hl, sub_ok (by omega) (Nat.le_refl _) (by omega), hd]
 rw [next_t, rdC_n hc (rd_ok hc (by omega)) (by decide), e1, rdC_n hc (rd_ok hc (by omega)) (by decide), e2, n1, key]
 unfold nextL
 rw [n1, e1, n2, w8_dg h4, w8_dg h4]
 rfl
theorem next_no (ho : ¬ okN es a n) : ∃ f g c r', opn κn Tryz.f24 [.ptr 0 0] (rH (RD a n) n es) = .ret (.tup [.agg [.ptr 2 0, .int .i64 a, .int .u8 f, .int .u8 g], .bool false]) [(0, some (rC r' n)), (2, some c)] := by
 have h4 := hc.2.2.2
 have h3 := hc.2.2.1
 have h1 := hc.1
 have e1 : (RD a n).adv 1 = RD (a + 1) n := adv_RD (by omega)
 have n1 : (RD a n).num es 1 = dg es a := by rw [num_RD (by omega), tk1]
 have hr1 := rd_ok hc (s := a) (by omega)
 rw [next_t, rdC_n hc hr1 (by decide), rdC_n hc (hr1.adv 1) (by decide), n1, w8_dg h4]
 have hr2 := (hr1.adv 1).adv 1
 have fin : ∀ c (r' : Rd), r'.err = 4 → ∃ f g c' r'', nextL (RD a n) n es c r' = .ret (.tup [.agg [.ptr 2 0, .int .i64 a, .int .u8 f, .int .u8 g], .bool false]) [(0, some (rC r'' n)), (2, some c')] := by
  intro c r' hr
  refine ⟨w8 ((RD a n).num es 1), w8 (((RD a n).adv 1).num es 1), c, r', ?_⟩
  unfold nextL
  rw [hr]; rfl
 have body : ∀ k : Nat, (k = 1 ∨ k = 2) → hdN es a = k + 2 → ∃ f g c r', rdC (((RD a n).adv 1).adv 1) n es k (subK ((((RD a n).adv 1).adv 1).adv k) n (IntKind.i64.wrap ((((RD a n).adv 1).adv 1).num es k)) (nextL (RD a n) n es)) =
   .ret (.tup [.agg [.ptr 2 0, .int .i64 a, .int .u8 f, .int .u8 g], .bool false]) [(0, some (rC r' n)), (2, some c)] := by
  intro k hk hd
  rw [rdC_n hc hr2 (by omega)]
  rw [e1]
  by_cases c2 : a + 2 ≤ n
  · have e2 : (RD (a + 1) n).adv 1 = RD (a + 2) n := adv_RD (by omega)
    rw [e2]
    by_cases c3 : a + 2 + k ≤ n
    · obtain ⟨t1, t2⟩ := tkN_rng h4 (a + 2) k
      have t3 : (256 : Int) ^ k ≤ 65536 := by rcases hk with rfl | rfl <;> decide
      have hl : lnN es a = (tkN es (a + 2) k).toNat := by unfold lnN; rw [hd]; rfl
      have hgt : ¬ a + 2 + k + lnN es a ≤ n := fun hh => ho ⟨by omega, by omega⟩
      rw [adv_RD (by omega), num_RD (by omega), w64_id (by omega) (by omega), sub_few (by omega) (by omega) (by omega)]
      exact fin _ _ rfl
    · rw [adv_few c3, sub_bad rfl]
      exact fin _ _ rfl
  · rw [adv_few (s := a + 1) (k := 1) (by omega), adv_bad rfl, sub_bad rfl]
    exact fin _ _ rfl
 by_cases hf : andI .u8 (dg es a) 16 ≠ 0
 · rw [show (andI .u8 (dg es a) 16 != 0) = true by simpa using hf, cond_true]
   exact body 2 (.inr rfl) (if_pos hf)
 · rw [show (andI .u8 (dg es a) 16 != 0) = false by simpa using hf, cond_false]
   exact body 1 (.inl rfl) (if_neg hf)
end
end Go.Proofs.YtdgnhaacdpmclaaGreat
/- Attributes are read: the result, numbers. -/
namespace Go.Proofs.YtdgnhaacdpmclaaGreat
open Go.Am
set_option maxRecDepth 100000
structure Ds where
 (ori nx med prf orr tk tl tr tg : Int) (hm hp ho : Bool) (path cl cm rch unr : List SV)
def nz : Bool → Nat → List SV → SV
 | true, _, _ => .nils
 | false, e, l => .psl e l
def dL (pb cb mb : Bool) (d : Ds) : List SV := [.int .i64 d.ori, nz pb 26 d.path, .int .u32 d.nx, .bool d.hm, .int .u32 d.med, .bool d.hp, .int .u32 d.prf, .bool d.ho, .int .u32 d.orr, nz cb 27 d.cl, nz mb 91 d.cm, .int .i64 d.tk, .int .u32 d.tl, .int .u32 d.tr, .int .u32 d.tg, .psl 49 d.rch, .psl 49 d.unr]
abbrev dC (pb cb mb : Bool) (d : Ds) : Chunk := .cells 63 (dL pb cb mb d)
def nmH (r : Rd) (n : Nat) (es : List SV) (sz lim : Int) (f : Nat) (pb cb mb : Bool) (d : Ds) : HpL :=
 [(0, rC r n), (1, .seq 5 es), (2, .cells 3 [.int .i64 sz]), (3, .cells 42 [.int .u64 lim]), (4, .cells 111 [.fn (.func f) [] [.ptr 5 0]]), (5, .cells 109 [.ptr 6 0]), (6, dC pb cb mb d)]
def nmA (off fl cd : Int) : List SV := [.agg [.ptr 0 0, .int .i64 off, .int .u8 fl, .int .u8 cd], .ptr 2 0, .ptr 3 0, .ptr 4 0]
noncomputable def nmT (r : Rd) (n : Nat) (es : List SV) (sz : Nat) (lim : Int) (pb cb mb : Bool) (d : Int → Ds) : CTree :=
 bif IntKind.i64.wrap (r.end_ - r.at_) != sz then .ret (.bool false) [] else rdC r n es sz (bif decide (r.num es sz > lim) then .ret (.bool false) [(0, some (rC (r.adv sz) n))] else
  .ret (.bool true) [(6, some (dC pb cb mb (d (r.num es sz)))), (0, some (rC (r.adv sz) n))])
def d1 (d : Ds) (x : Int) : Ds := { d with ori := IntKind.i64.wrap x }
def d4 (d : Ds) (x : Int) : Ds := { d with hm := true, med := w3 x }
def d5 (d : Ds) (x : Int) : Ds := { d with hp := true, prf := w3 x }
def d9 (d : Ds) (x : Int) : Ds := { d with ho := true, orr := w3 x }
theorem nm_t1 (r : Rd) (n : Nat) (es : List SV) (off fl cd : Int) (pb cb mb : Bool) (d : Ds) : opn κn Tryz.f90 (nmA off fl cd) (nmH r n es 1 2 52 pb cb mb d) = nmT r n es 1 2 pb cb mb (d1 d) := by
 cases pb <;> cases cb <;> cases mb <;> kernel_rfl
theorem nm_t4 (r : Rd) (n : Nat) (es : List SV) (off fl cd : Int) (pb cb mb : Bool) (d : Ds) : opn κn Tryz.f90 (nmA off fl cd) (nmH r n es 4 4294967295 55 pb cb mb d) = nmT r n es 4 4294967295 pb cb mb (d4 d) := by
 cases pb <;> cases cb <;> cases mb <;> kernel_rfl
theorem nm_t5 (r : Rd) (n : Nat) (es : List SV) (off fl cd : Int) (pb cb mb : Bool) (d : Ds) : opn κn Tryz.f90 (nmA off fl cd) (nmH r n es 4 4294967295 56 pb cb mb d) = nmT r n es 4 4294967295 pb cb mb (d5 d) := by
 cases pb <;> cases cb <;> cases mb <;> kernel_rfl
theorem nm_t9 (r : Rd) (n : Nat) (es : List SV) (off fl cd : Int) (pb cb mb : Bool) (d : Ds) : opn κn Tryz.f90 (nmA off fl cd) (nmH r n es 4 4294967295 57 pb cb mb d) = nmT r n es 4 4294967295 pb cb mb (d9 d) := by
 cases pb <;> cases cb <;> cases mb <;> kernel_rfl
end Go.Proofs.YtdgnhaacdpmclaaGreat
/- Attributes are read: numbers, known. -/
namespace Go.Proofs.YtdgnhaacdpmclaaGreat
open Go.Am
set_option maxRecDepth 100000
theorem coV_jk {P : Program} {v : SV} : CoV P v .junk := fun _ _ _ _ _ _ => .junk
theorem coL_jk {P : Program} : ∀ (vs : List SV), CoL P vs (List.replicate vs.length .junk)
 | [] => .nil
 | _ :: vs => .cons coV_jk (coL_jk vs)
def jk : Chunk := .cells 63 [.junk, .junk, .junk, .junk, .junk, .junk, .junk, .junk, .junk, .junk, .junk, .junk, .junk, .junk, .junk, .junk, .junk]
theorem jk_of {pb cb mb : Bool} {d : Ds} {x : Nat} : CoC Tryz.prog x (dC pb cb mb d) jk := .cells (coL_jk (dL pb cb mb d))
def zP : SV → Option (Bool × List SV)
 | .nils => some (true, [])
 | .psl _ l => some (false, l)
 | _ => none
def dP : List SV → Option (Bool × Bool × Bool × Ds)
 | [.int .i64 ori, p, .int .u32 nx, .bool hm, .int .u32 med, .bool hp, .int .u32 prf, .bool ho, .int .u32 orr, c, m, .int .i64 tk, .int .u32 tl, .int .u32 tr, .int .u32 tg, .psl 49 rch, .psl 49 unr] =>
  match zP p, zP c, zP m with
  | some (pb, path), some (cb, cl), some (mb, cm) => some (pb, cb, mb, ⟨ori, nx, med, prf, orr, tk, tl, tr, tg, hm, hp, ho, path, cl, cm, rch, unr⟩)
  | _, _, _ => none
 | _ => none
def vl (es : List SV) (s e : Nat) : List SV := sl es s (e - s)
def okV (es : List SV) (n s e : Nat) : Prop := byl es ∧ n = es.length ∧ n ≤ 1000000 ∧ s ≤ e ∧ e ≤ n
theorem tkN_sl {es : List SV} {s m : Nat} : ∀ k, k ≤ m → tkN es s k = tkN (sl es s m) 0 k
 | 0, _ => rfl
 | k + 1, h => by
  rw [tkN, tkN, tkN_sl (m := m) k (by omega), Nat.zero_add, sl_dg (es := es) (l := s) (n := m) (j := k) (by omega)]
theorem okV.rd {es : List SV} {n s e : Nat} (h : okV es n s e) : OkRd (RD s e) es := by
 obtain ⟨h1, h2, h3, h4, h5⟩ := h
 exact ⟨by simp [RD], by simp [RD]; omega, by simp [RD]; omega, by omega, h1.ok⟩
theorem okV.len {es : List SV} {n s e : Nat} (h : okV es n s e) : (vl es s e).length = e - s := by
 obtain ⟨h1, h2, h3, h4, h5⟩ := h
 exact sl_len (by omega)
def nmF (f : Nat) : Ds → Int → Ds := bif Nat.beq f 52 then d1 else bif Nat.beq f 55 then d4 else bif Nat.beq f 56 then d5 else d9
def nmLim (f : Nat) : Int := bif Nat.beq f 52 then 2 else 4294967295
def nmZ (f : Nat) : Nat := bif Nat.beq f 52 then 1 else 4
def nmOk (f : Nat) (v : List SV) : Bool := decide (v.length = nmZ f) && decide (tkN v 0 (nmZ f) ≤ nmLim f)
noncomputable def nm_s : CSumm := fun args H => match args, H with
 | [.agg [.ptr 0 0, .int .i64 off, .int .u8 fl, .int .u8 cd], .ptr 2 0, .ptr 3 0, .ptr 4 0], [(0, .cells 121 [.int .i64 a, .int .i64 e, .qs 1 1 0 n, _, _, _]), (1, .seq 5 es), (2, _), (3, _), (4, .cells 111 [.fn (.func f) _ _]), (5, _), (6, .cells 63 cs)] =>
  match dP cs with
  | some (pb, cb, mb, d) => .ite (dec (H = nmH (RD a.toNat e.toNat) n es (nmZ f) (nmLim f) f pb cb mb d ∧ okV es n a.toNat e.toNat ∧ (f = 52 ∨ f = 55 ∨ f = 56 ∨ f = 57)))
    (.ite (nmOk f (vl es a.toNat e.toNat)) (.ret (.bool true) [(6, some (dC pb cb mb (nmF f d (tkN (vl es a.toNat e.toNat) 0 (nmZ f))))), (0, none)]) (.ret (.bool false) [(6, some jk), (0, none)])) .fail
  | none => .fail
 | _, _ => .fail
theorem told_but {H : HpL} {c : Chunk} {c0 c6 : Chunk} (h6 : CoC Tryz.prog 6 c6 c) {ups : List (Nat × Option Chunk)} (hu : updF ups H.get 6 = some c6) (ho : ∀ x, x ≠ 0 → x ≠ 6 → updF ups H.get x = H.get x) : ∀ x c', updF [(6, some c), (0, none)] H.get x = some c' → ∃ c, updF ups H.get x = some c ∧ CoC Tryz.prog x c c' := by
 intro x c' hx
 simp only [updF] at hx
 by_cases h0 : x = 0
 · rw [if_pos h0] at hx; cases hx
 · rw [if_neg h0] at hx
   by_cases hx6 : x = 6
   · subst hx6; rw [if_pos rfl] at hx; cases hx; exact ⟨c6, hu, h6⟩
   · rw [if_neg hx6] at hx; exact ⟨c', by rw [ho x h0 hx6]; exact hx, .rfl'⟩
theorem nm_t {f : Nat} (hf : f = 52 ∨ f = 55 ∨ f = 56 ∨ f = 57) (r : Rd) (n : Nat) (es : List SV) (off fl cd : Int) (pb cb mb : Bool) (d : Ds) : opn κn Tryz.f90 (nmA off fl cd) (nmH r n es (nmZ f) (nmLim f) f pb cb mb d) = nmT r n es (nmZ f) (nmLim f) pb cb mb (nmF f d) := by
 rcases hf with rfl | rfl | rfl | rfl
 · exact nm_t1 ..
 · exact nm_t4 ..
 · exact nm_t5 ..
 · exact nm_t9 ..
theorem nm_k : Known Tryz.prog 90 nm_s := known_told (openKnown nOk Tryz.func90 rfl) (by
 intro args H v' ups' h
 unfold nm_s at h
 split at h
 · rename_i off fl cd a e n x1 x2 x3 es x4 x5 f x6 x7 x8 cs
   split at h
   · rename_i pb cb mb d hd
     rw [crun_ite] at h
     cases hc : dec _ with
     | false => rw [hc] at h; cases h
     | true =>
      rw [hc, cond_true, crun_ite] at h
      obtain ⟨hH, ho, hf⟩ := dec_iff.1 hc
      rw [hH]
      generalize a.toNat = s at *
      generalize e.toNat = t at *
      have ht := nm_t hf (RD s t) n es off fl cd pb cb mb d
      have hz : nmZ f = 1 ∨ nmZ f = 4 := by rcases hf with rfl | rfl | rfl | rfl <;> decide
      have hl := ho.len
      obtain ⟨h1, h2, h3, h4, h5⟩ := ho
      have hw : IntKind.i64.wrap ((RD s t).end_ - (RD s t).at_) = ((t - s : Nat) : Int) := by
       unfold RD; simp only []
       rw [w64_id (by omega) (by omega)]; omega
      unfold nmT at ht
      rw [hw] at ht
      by_cases hq : t - s = nmZ f
      · rw [show (((t - s : Nat) : Int) != ((nmZ f : Nat) : Int)) = false by simp; omega, cond_false] at ht
        unfold rdC at ht
        rw [dec_iff.2 ⟨okV.rd ⟨h1, h2, h3, h4, h5⟩, h2, by omega, by omega⟩, cond_true, num_RD (by omega), tkN_sl (es := es) (s := s) (m := t - s) (nmZ f) (by omega)] at ht
        change _ = bif decide (tkN (vl es s t) 0 (nmZ f) > nmLim f) then _ else CTree.ret (.bool true) [(6, some (dC pb cb mb (nmF f d (tkN (vl es s t) 0 (nmZ f))))), _] at ht
        by_cases hm : tkN (vl es s t) 0 (nmZ f) ≤ nmLim f
        · rw [decide_eq_false (by omega), cond_false] at ht
          rw [show nmOk f (vl es s t) = true by unfold nmOk; rw [hl, decide_eq_true hq, decide_eq_true hm]; rfl] at h
          cases h
          refine ⟨_, _, congrArg crun ht, .inr ⟨.rfl', told_but (c0 := jk) .rfl' rfl (fun x h0 h6 => ?_)⟩⟩
          simp only [updF, h0, h6, if_false]
        · rw [decide_eq_true (by omega), cond_true] at ht
          rw [show nmOk f (vl es s t) = false by unfold nmOk; rw [decide_eq_false hm]; simp] at h
          cases h
          refine ⟨_, _, congrArg crun ht, .inr ⟨.rfl', told_but (c0 := jk) jk_of rfl (fun x h0 h6 => ?_)⟩⟩
          simp only [updF, h0, if_false]
      · rw [show (((t - s : Nat) : Int) != ((nmZ f : Nat) : Int)) = true by simp; omega, cond_true] at ht
        rw [show nmOk f (vl es s t) = false by unfold nmOk; rw [hl, decide_eq_false hq]; rfl] at h
        cases h
        exact ⟨_, _, congrArg crun ht, .inr ⟨.rfl', told_but (c0 := jk) jk_of rfl (fun x h0 h6 => rfl)⟩⟩
   · cases h
 · cases h)
end Go.Proofs.YtdgnhaacdpmclaaGreat
/- Attributes are read: the tunnel. -/
namespace Go.Proofs.YtdgnhaacdpmclaaGreat
open Go.Am
set_option maxRecDepth 100000
def flH (r : Rd) (n : Nat) (es : List SV) (pb cb mb : Bool) (d : Ds) : HpL := [(0, rC r n), (1, .seq 5 es), (2, .cells 109 [.ptr 3 0]), (3, dC pb cb mb d)]
def flA (off fl cd : Int) : List SV := [.agg [.ptr 0 0, .int .i64 off, .int .u8 fl, .int .u8 cd], .ptr 2 0]
noncomputable def un_s (k : Nat) : CSumm := fun args H => match args with
 | [.ptr 0 0] => match rOf H with
  | some (r, n, es) => .ite (dec (OkRd r es ∧ n = es.length)) (.ret (.int .u64 (r.num es k)) [(0, some (rC (r.adv k) n))]) .fail
  | none => .fail
 | _ => .fail
theorem un_of {f k : Nat} {fn : Func} (hf : Tryz.prog.funcs[f]? = some fn) (hb : fn.body.isNone = false) (hk : k ≤ 8)
  (ht : ∀ r n es, opn κn fn [.ptr 0 0] (rH r n es) = rdC r n es k (.ret (.int .u64 (r.num es k)) [(0, some (rC (r.adv k) n))])) : Known Tryz.prog f (un_s k) := (openKnown nOk hf hb).weak (by
 intro args H v ups h
 unfold un_s at h
 split at h
 · split at h
   · rename_i r n es hr
     rw [crun_ite] at h
     cases hc : dec (OkRd r es ∧ n = es.length) with
     | false => rw [hc] at h; cases h
     | true =>
      rw [hc, cond_true] at h
      obtain ⟨h1, h2⟩ := dec_iff.1 hc
      rw [rOf_h hr]
      refine (congrArg crun (ht r n es)).trans ?_
      unfold rdC
      rw [dec_iff.2 ⟨h1, h2, by omega, by omega⟩]
      exact h
   · cases h
 · cases h)
theorem u8_n : Known Tryz.prog 72 (un_s 1) := un_of Tryz.func72 rfl (by decide) (fun r n es => by kernel_rfl)
theorem u24_n : Known Tryz.prog 64 (un_s 3) := un_of Tryz.func64 rfl (by decide) (fun r n es => by kernel_rfl)
theorem u32_n : Known Tryz.prog 60 (un_s 4) := un_of Tryz.func60 rfl (by decide) (fun r n es => by kernel_rfl)
noncomputable abbrev κu := tbl [(72, un_s 1), (64, un_s 3), (60, un_s 4), (67, byR_s)]
theorem uOk : KOk Tryz.prog κu := tbl_cons u8_n (tbl_cons u24_n (tbl_cons u32_n (tbl_cons byR_k ok0)))
end Go.Proofs.YtdgnhaacdpmclaaGreat
/- Attributes are read: what reads a value, the tunnel. -/
namespace Go.Proofs.YtdgnhaacdpmclaaGreat
open Go.Am
set_option maxRecDepth 100000
noncomputable def fl_s (pre : Bool → Bool → Bool → Bool) (ok : List SV → Bool) (g : List SV → Ds → Ds) (fp fc fm : Bool → Bool) : CSumm := fun args H => match args, H with
 | [.agg [.ptr 0 0, .int .i64 off, .int .u8 fl, .int .u8 cd], .ptr 2 0], [(0, .cells 121 [.int .i64 a, .int .i64 e, .qs 1 1 0 n, _, _, _]), (1, .seq 5 es), (2, _), (3, .cells 63 cs)] =>
  match dP cs with
  | some (pb, cb, mb, d) => .ite (dec (H = flH (RD a.toNat e.toNat) n es pb cb mb d ∧ okV es n a.toNat e.toNat ∧ pre pb cb mb = true))
    (.ite (ok (vl es a.toNat e.toNat)) (.ret (.bool true) [(3, some (dC (fp pb) (fc cb) (fm mb) (g (vl es a.toNat e.toNat) d))), (0, none)]) (.ret (.bool false) [(3, some jk), (0, none)])) .fail
  | none => .fail
 | _, _ => .fail
theorem fl_of {f : Nat} {s0 : CSumm} {pre : Bool → Bool → Bool → Bool} {ok : List SV → Bool} {g : List SV → Ds → Ds} {fp fc fm : Bool → Bool} (h0 : Known Tryz.prog f s0)
  (ht : ∀ s t n es off fl cd pb cb mb d, okV es n s t → pre pb cb mb = true → ∃ v ups, crun (s0 (flA off fl cd) (flH (RD s t) n es pb cb mb d)) = some (v, ups) ∧
   (Frozen Tryz.prog (flH (RD s t) n es pb cb mb d) v ups (.bool (ok (vl es s t))) (bif ok (vl es s t) then [(3, some (dC (fp pb) (fc cb) (fm mb) (g (vl es s t) d))), (0, none)] else [(3, some jk), (0, none)]) ∨
    Am.Told Tryz.prog (flH (RD s t) n es pb cb mb d) v ups (.bool (ok (vl es s t))) (bif ok (vl es s t) then [(3, some (dC (fp pb) (fc cb) (fm mb) (g (vl es s t) d))), (0, none)] else [(3, some jk), (0, none)]))) :
  Known Tryz.prog f (fl_s pre ok g fp fc fm) := known_told h0 (by
 intro args H v' ups' h
 unfold fl_s at h
 split at h
 · rename_i off fl cd a e n x1 x2 x3 es x4 cs
   split at h
   · rename_i pb cb mb d hd
     rw [crun_ite] at h
     cases hc : dec _ with
     | false => rw [hc] at h; cases h
     | true =>
      rw [hc, cond_true, crun_ite] at h
      obtain ⟨hH, ho, hp⟩ := dec_iff.1 hc
      rw [hH]
      have := ht a.toNat e.toNat n es off fl cd pb cb mb d ho hp
      cases hk : ok (vl es a.toNat e.toNat) with
      | true => rw [hk] at h this; cases h; exact this
      | false => rw [hk] at h this; cases h; exact this
   · cases h
 · cases h)
theorem told3 {H : HpL} {c c3 : Chunk} (h3 : CoC Tryz.prog 3 c3 c) {ups : List (Nat × Option Chunk)} (hu : updF ups H.get 3 = some c3) (ho : ∀ x, x ≠ 0 → x ≠ 3 → updF ups H.get x = H.get x) : ∀ x c', updF [(3, some c), (0, none)] H.get x = some c' → ∃ c, updF ups H.get x = some c ∧ CoC Tryz.prog x c c' := by
 intro x c' hx
 simp only [updF] at hx
 by_cases h0 : x = 0
 · rw [if_pos h0] at hx; cases hx
 · rw [if_neg h0] at hx
   by_cases hx6 : x = 3
   · subst hx6; rw [if_pos rfl] at hx; cases hx; exact ⟨c3, hu, h3⟩
   · rw [if_neg hx6] at hx; exact ⟨c', by rw [ho x h0 hx6]; exact hx, .rfl'⟩
noncomputable def ruC (r : Rd) (n : Nat) (es : List SV) (K : CTree) : CTree := bif dec (OkRd r es ∧ n = es.length) then K else .fail
def dT (d : Ds) (k l r g : Int) : Ds := { d with tk := k, tl := l, tr := r, tg := g }
def tnB (r0 k : Int) (r : Rd) : Bool := bif (bif (bif r0 == 0 then (bif k == 3 then true else k == 6) else false) then IntKind.i64.wrap (r.end_ - r.at_) == 0 else false) then r.err == 0 else false
noncomputable def tnT (r : Rd) (n : Nat) (es : List SV) (pb cb mb : Bool) (d : Ds) : CTree :=
 ruC r n es (ruC (r.adv 1) n es (ruC ((r.adv 1).adv 1) n es (ruC (((r.adv 1).adv 1).adv 3) n es (
  bif IntKind.i64.wrap ((r.adv 1).num es 1) == 3 then ruC ((((r.adv 1).adv 1).adv 3).adv 4) n es (.ret (.bool (tnB (r.num es 1) (IntKind.i64.wrap ((r.adv 1).num es 1)) (((((r.adv 1).adv 1).adv 3).adv 4).adv 4)))
   [(3, some (dC pb cb mb (dT d (IntKind.i64.wrap ((r.adv 1).num es 1)) (w3 (((r.adv 1).adv 1).num es 3)) (w3 ((((r.adv 1).adv 1).adv 3).num es 4)) (w3 (((((r.adv 1).adv 1).adv 3).adv 4).num es 4))))), (0, some (rC (((((r.adv 1).adv 1).adv 3).adv 4).adv 4) n))])
  else .ret (.bool (tnB (r.num es 1) (IntKind.i64.wrap ((r.adv 1).num es 1)) ((((r.adv 1).adv 1).adv 3).adv 4)))
   [(3, some (dC pb cb mb (dT d (IntKind.i64.wrap ((r.adv 1).num es 1)) (w3 (((r.adv 1).adv 1).num es 3)) (w3 ((((r.adv 1).adv 1).adv 3).num es 4)) 0))), (0, some (rC ((((r.adv 1).adv 1).adv 3).adv 4) n))]))))
theorem tn_t (r : Rd) (n : Nat) (es : List SV) (off fl cd : Int) (pb cb mb : Bool) (d : Ds) : opn κu Tryz.f68 (flA off fl cd) (flH r n es pb cb mb d) = tnT r n es pb cb mb d := by
 cases pb <;> cases cb <;> cases mb <;> kernel_rfl
end Go.Proofs.YtdgnhaacdpmclaaGreat
/- Attributes are read: the tunnel, known. -/
namespace Go.Proofs.YtdgnhaacdpmclaaGreat
open Go.Am
set_option maxRecDepth 100000
theorem tkN_slj {es : List SV} {s m j : Nat} : ∀ k, j + k ≤ m → tkN es (s + j) k = tkN (sl es s m) j k
 | 0, _ => rfl
 | k + 1, h => by
  rw [tkN, tkN, tkN_slj (m := m) k (by omega), sl_dg (es := es) (l := s) (n := m) (j := j + k) (by omega), Nat.add_assoc]
theorem num_v {es : List SV} {s t n : Nat} (j k : Nat) (h : s + (j + k) ≤ t) : (RD (s + j) t).num es k = tkN (vl es s t) j k := by
 rw [num_RD (by omega), tkN_slj (m := t - s) k (by omega)]; rfl
theorem adv_v {s t : Nat} (j k : Nat) (h : s + (j + k) ≤ t) : (RD (s + j) t).adv k = RD (s + (j + k)) t := by
 rw [adv_RD (by omega), Nat.add_assoc]
theorem adv_err {r : Rd} (h : (r.err != 0) = true) (k : Nat) : ((r.adv k).err != 0) = true := by rw [adv_bad h]; exact h
theorem few_err {s t k : Nat} (h : ¬ s + k ≤ t) : (((RD s t).adv k).err != 0) = true := by rw [adv_few h]; rfl
theorem ruC_ok {r : Rd} {n : Nat} {es : List SV} (h : OkRd r es) (hn : n = es.length) (K : CTree) : ruC r n es K = K := by
 unfold ruC; rw [dec_iff.2 ⟨h, hn⟩]; rfl
def tnOk (v : List SV) : Bool := bif dg v 0 == 0 then (bif dg v 1 == 3 then decide (v.length = 13) else bif dg v 1 == 6 then decide (v.length = 9) else false) else false
def tnG (v : List SV) (d : Ds) : Ds := dT d (dg v 1) (tkN v 2 3) (tkN v 5 4) (bif dg v 1 == 3 then tkN v 9 4 else 0)
theorem tnB_bad {a b : Int} {r : Rd} (h : (r.err != 0) = true) : tnB a b r = false := by
 unfold tnB
 have : (r.err == 0) = false := by simpa using h
 rw [this]
 generalize (bif (bif a == 0 then (bif b == 3 then true else b == 6) else false) then IntKind.i64.wrap (r.end_ - r.at_) == 0 else false) = x
 cases x <;> rfl
theorem left_v {s t k : Nat} (h : s + k ≤ t) (ht : t ≤ 1000000) : IntKind.i64.wrap ((RD (s + k) t).end_ - (RD (s + k) t).at_) = ((t - s - k : Nat) : Int) := by
 unfold RD; simp only []
 rw [w64_id (by omega) (by omega)]; omega
theorem tn_k : Known Tryz.prog 68 (fl_s (fun _ _ _ => true) tnOk tnG id id id) := fl_of (openKnown uOk Tryz.func68 rfl) (by
 intro s t n es off fl cd pb cb mb d ho _
 have ht := tn_t (RD s t) n es off fl cd pb cb mb d
 have hl := ho.len
 have hr := ho.rd
 obtain ⟨h1, h2, h3, h4, h5⟩ := ho
 have hv : byl (vl es s t) := h1.sl _ _
 have e1 : (RD s t).adv 1 = (RD (s + 0) t).adv 1 := rfl
 unfold tnT at ht
 rw [ruC_ok hr h2, ruC_ok (hr.adv 1) h2, ruC_ok ((hr.adv 1).adv 1) h2, ruC_ok (((hr.adv 1).adv 1).adv 3) h2] at ht
 have told_no : ∀ {x : Bool} {c : Chunk} {c0 : Chunk}, x = false → (∃ d', c = dC pb cb mb d') → Am.Told Tryz.prog (flH (RD s t) n es pb cb mb d) (.bool x) [(3, some c), (0, some c0)] (.bool false) [(3, some jk), (0, none)] := by
  rintro x c c0 rfl ⟨d', rfl⟩
  exact ⟨.rfl', told3 jk_of rfl (fun x h0 h6 => by simp only [updF, h0, h6, if_false])⟩
 by_cases h9 : s + 9 ≤ t
 · have a1 : (RD s t).adv 1 = RD (s + 1) t := adv_v (s := s) 0 1 (by omega)
   have a2 : (RD (s + 1) t).adv 1 = RD (s + 2) t := adv_v 1 1 (by omega)
   have a3 : (RD (s + 2) t).adv 3 = RD (s + 5) t := adv_v 2 3 (by omega)
   have a4 : (RD (s + 5) t).adv 4 = RD (s + 9) t := adv_v 5 4 (by omega)
   have m0 : (RD s t).num es 1 = dg (vl es s t) 0 := by rw [← tk1]; exact num_v (n := n) (s := s) 0 1 (by omega)
   have m1 : (RD (s + 1) t).num es 1 = dg (vl es s t) 1 := by rw [← tk1]; exact num_v (n := n) 1 1 (by omega)
   have m2 : (RD (s + 2) t).num es 3 = tkN (vl es s t) 2 3 := num_v (n := n) 2 3 (by omega)
   have m3 : (RD (s + 5) t).num es 4 = tkN (vl es s t) 5 4 := num_v (n := n) 5 4 (by omega)
   obtain ⟨q1, q2⟩ := hv.ok 1
   obtain ⟨q3, q4⟩ := tkN_rng hv.ok 2 3
   obtain ⟨q5, q6⟩ := tkN_rng hv.ok 5 4
   rw [a1, a2, a3, a4, m0, m1, m2, m3, w64_id (n := dg (vl es s t) 1) (by omega) (by omega), w3_id (n := tkN (vl es s t) 2 3) q3 (Int.lt_trans q4 (by decide)), w3_id (n := tkN (vl es s t) 5 4) q5 q6] at ht
   by_cases hk3 : dg (vl es s t) 1 = 3
   · rw [show (dg (vl es s t) 1 == 3) = true by simpa using hk3, cond_true, ruC_ok (by rw [← a4, ← a3, ← a2, ← a1]; exact (((hr.adv 1).adv 1).adv 3).adv 4) h2] at ht
     by_cases h13 : s + 13 ≤ t
     · have a5 : (RD (s + 9) t).adv 4 = RD (s + 13) t := adv_v 9 4 (by omega)
       have m4 : (RD (s + 9) t).num es 4 = tkN (vl es s t) 9 4 := num_v (n := n) 9 4 (by omega)
       obtain ⟨q7, q8⟩ := tkN_rng hv.ok 9 4
       rw [a5, m4, w3_id (n := tkN (vl es s t) 9 4) q7 q8] at ht
       have hb : tnB (dg (vl es s t) 0) (dg (vl es s t) 1) (RD (s + 13) t) = tnOk (vl es s t) := by
        unfold tnB tnOk
        rw [left_v h13 (by omega), hk3, hl]
        cases dg (vl es s t) 0 == 0 with
        | false => rfl
        | true =>
         by_cases hx : t - s = 13
         · rw [decide_eq_true hx, show t - s - 13 = 0 by omega]; rfl
         · rw [decide_eq_false hx, show (((t - s - 13 : Nat) : Int) == 0) = false by simp; omega]; rfl
       rw [hb] at ht
       refine ⟨_, _, congrArg crun ht, .inr ?_⟩
       cases hok : tnOk (vl es s t) with
       | false => exact told_no rfl ⟨_, rfl⟩
       | true =>
        refine ⟨.rfl', told3 (c3 := dC pb cb mb (tnG (vl es s t) d)) .rfl' ?_ (fun x h0 h6 => by simp only [updF, h0, h6, if_false])⟩
        show some _ = some _
        unfold tnG
        rw [hk3]; rfl
     · have hbad := few_err (s := s + 9) (t := t) (k := 4) (by omega)
       have hok : tnOk (vl es s t) = false := by
        unfold tnOk
        rw [hk3, hl, decide_eq_false (show ¬ t - s = 13 by omega)]
        cases dg (vl es s t) 0 == 0 <;> rfl
       rw [tnB_bad hbad] at ht
       rw [hok]
       exact ⟨_, _, congrArg crun ht, .inr (told_no rfl ⟨_, rfl⟩)⟩
   · have hk3' : (dg (vl es s t) 1 == 3) = false := by simpa using hk3
     rw [hk3', cond_false] at ht
     have hb : tnB (dg (vl es s t) 0) (dg (vl es s t) 1) (RD (s + 9) t) = tnOk (vl es s t) := by
      unfold tnB tnOk
      rw [left_v h9 (by omega), hk3', hl]
      cases dg (vl es s t) 0 == 0 with
      | false => rfl
      | true => cases dg (vl es s t) 1 == 6 with
       | false => rfl
       | true =>
        by_cases hx : t - s = 9
        · rw [decide_eq_true hx, show t - s - 9 = 0 by omega]; rfl
        · rw [decide_eq_false hx, show (((t - s - 9 : Nat) : Int) == 0) = false by simp; omega]; rfl
     rw [hb] at ht
     refine ⟨_, _, congrArg crun ht, .inr ?_⟩
     cases hok : tnOk (vl es s t) with
     | false => exact told_no rfl ⟨_, rfl⟩
     | true =>
      refine ⟨.rfl', told3 (c3 := dC pb cb mb (tnG (vl es s t) d)) .rfl' ?_ (fun x h0 h6 => by simp only [updF, h0, h6, if_false])⟩
      show some _ = some _
      unfold tnG
      rw [hk3']; rfl
 · have hbad : ((((((RD s t).adv 1).adv 1).adv 3).adv 4).err != 0) = true := by
     by_cases c1 : s + 1 ≤ t
     · have a1 : (RD s t).adv 1 = RD (s + 1) t := adv_v (s := s) 0 1 (by omega)
       rw [a1]
       by_cases c2 : s + 2 ≤ t
       · rw [adv_v (s := s) (t := t) 1 1 (by omega)]
         by_cases c3 : s + 5 ≤ t
         · rw [adv_v (s := s) (t := t) (1 + 1) 3 (by omega)]; exact few_err (by omega)
         · exact adv_err (few_err (by omega)) _
       · exact adv_err (adv_err (few_err (by omega)) _) _
     · exact adv_err (adv_err (adv_err (few_err c1) _) _) _
   have hok : tnOk (vl es s t) = false := by
    unfold tnOk
    rw [hl, decide_eq_false (show ¬ t - s = 13 by omega), decide_eq_false (show ¬ t - s = 9 by omega)]
    cases dg (vl es s t) 0 == 0 <;> cases dg (vl es s t) 1 == 3 <;> cases dg (vl es s t) 1 == 6 <;> rfl
   rw [hok]
   rw [tnB_bad hbad, ruC_ok ((((hr.adv 1).adv 1).adv 3).adv 4) h2, tnB_bad (adv_err hbad 4)] at ht
   cases hx : (IntKind.i64.wrap (((RD s t).adv 1).num es 1) == 3) with
   | true =>
    rw [hx] at ht
    exact ⟨_, _, congrArg crun ht, .inr (told_no rfl ⟨_, rfl⟩)⟩
   | false =>
    rw [hx] at ht
    exact ⟨_, _, congrArg crun ht, .inr (told_no rfl ⟨_, rfl⟩)⟩)
end Go.Proofs.YtdgnhaacdpmclaaGreat
/- Attributes are read: routes. -/
namespace Go.Proofs.YtdgnhaacdpmclaaGreat
open Go.Am
set_option maxRecDepth 100000
noncomputable abbrev κo := tbl [(67, byR_s), (92, read_s)]
theorem oOk : KOk Tryz.prog κo := tbl_cons byR_k (tbl_cons read_k ok0)
def roH (r : Rd) (n : Nat) (es : List SV) (pb cb mb : Bool) (d : Ds) : HpL := [(0, rC r n), (1, .seq 5 es), (2, dC pb cb mb d)]
def roA (off fl cd : Int) (o : Nat) : List SV := [.agg [.ptr 0 0, .int .i64 off, .int .u8 fl, .int .u8 cd], .ptr 2 o]
def lfI (r : Rd) : Int := IntKind.i64.wrap (r.end_ - r.at_)
def rstN (r : Rd) (es : List SV) : List SV := r.sub es (lfI r).toNat
noncomputable def dO (o : Nat) (p : List SV) (d : Ds) : Ds := bif Nat.beq o 15 then { d with rch := rdL p } else { d with unr := rdL p }
noncomputable def roT (r : Rd) (n : Nat) (es : List SV) (pb cb mb : Bool) (d : Ds) (o : Nat) : CTree :=
 bif dec (OkRd r es ∧ n = es.length ∧ 0 ≤ lfI r ∧ lfI r ≤ 1000000) then bif dec (byl (rstN r es) ∧ 0 + (rstN r es).length ≤ (rstN r es).length ∧ (rstN r es).length ≤ 1000000) then
  .ret (.bool (bif rdE (sl (rstN r es) 0 (rstN r es).length) == 0 then (r.adv (lfI r).toNat).err == 0 else false)) [(2, some (dC pb cb mb (dO o (sl (rstN r es) 0 (rstN r es).length) d))), (0, some (rC (r.adv (lfI r).toNat) n))]
 else .fail else .fail
theorem ro_t15 (r : Rd) (n : Nat) (es : List SV) (off fl cd : Int) (pb cb mb : Bool) (d : Ds) : opn κo Tryz.f65 (roA off fl cd 15) (roH r n es pb cb mb d) = roT r n es pb cb mb d 15 := by
 cases pb <;> cases cb <;> cases mb <;> kernel_rfl
theorem ro_t16 (r : Rd) (n : Nat) (es : List SV) (off fl cd : Int) (pb cb mb : Bool) (d : Ds) : opn κo Tryz.f65 (roA off fl cd 16) (roH r n es pb cb mb d) = roT r n es pb cb mb d 16 := by
 cases pb <;> cases cb <;> cases mb <;> kernel_rfl
noncomputable def ro_s : CSumm := fun args H => match args, H with
 | [.agg [.ptr 0 0, .int .i64 off, .int .u8 fl, .int .u8 cd], .ptr 2 o], [(0, .cells 121 [.int .i64 a, .int .i64 e, .qs 1 1 0 n, .int .i64 er, .int .i64 f, .bool true]), (1, .seq 5 es), (2, .cells 63 cs)] =>
  match dP cs with
  | some (pb, cb, mb, d) => .ite (dec (H = roH ⟨a, e, er, f⟩ n es pb cb mb d ∧ OkRd ⟨a, e, er, f⟩ es ∧ n = es.length ∧ byl es ∧ (o = 15 ∨ o = 16)))
    (.ret (.bool (bif rdE (rstN ⟨a, e, er, f⟩ es) == 0 then ((⟨a, e, er, f⟩ : Rd).adv (lfI ⟨a, e, er, f⟩).toNat).err == 0 else false)) [(2, some (dC pb cb mb (dO o (rstN ⟨a, e, er, f⟩ es) d))), (0, some (rC ((⟨a, e, er, f⟩ : Rd).adv (lfI ⟨a, e, er, f⟩).toNat) n))]) .fail
  | none => .fail
 | _, _ => .fail
theorem sl_all (l : List SV) : sl l 0 l.length = l := by unfold sl; simp
theorem ro_k : Known Tryz.prog 65 ro_s := (openKnown oOk Tryz.func65 rfl).weak (by
 intro args H v ups h
 unfold ro_s at h
 split at h
 · rename_i off fl cd o a e n er f es cs
   split at h
   · rename_i pb cb mb d hd
     rw [crun_ite] at h
     cases hc : dec _ with
     | false => rw [hc] at h; cases h
     | true =>
      rw [hc, cond_true] at h
      obtain ⟨hH, h1, h2, h3, h4⟩ := dec_iff.1 hc
      rw [hH]
      generalize (⟨a, e, er, f⟩ : Rd) = r at *
      have hlf : 0 ≤ lfI r ∧ lfI r ≤ 1000000 := by
       obtain ⟨q1, q2, q3, q4, q5⟩ := h1
       unfold lfI
       rw [w64_id (by omega) (by omega)]; omega
      have hrl : byl (rstN r es) := sub_byl h3 r _
      have hrn : (rstN r es).length ≤ 1000000 := Nat.le_trans (sub_len r es _) (by omega)
      have ht : roT r n es pb cb mb d o = .ret (.bool (bif rdE (rstN r es) == 0 then (r.adv (lfI r).toNat).err == 0 else false)) [(2, some (dC pb cb mb (dO o (rstN r es) d))), (0, some (rC (r.adv (lfI r).toNat) n))] := by
       unfold roT
       rw [dec_iff.2 ⟨h1, h2, hlf.1, hlf.2⟩, dec_iff.2 ⟨hrl, by omega, hrn⟩, sl_all]; rfl
      rcases h4 with rfl | rfl
      · exact (congrArg crun ((ro_t15 r n es off fl cd pb cb mb d).trans ht)).trans h
      · exact (congrArg crun ((ro_t16 r n es off fl cd pb cb mb d).trans ht)).trans h
   · cases h
 · cases h)
end Go.Proofs.YtdgnhaacdpmclaaGreat
/- Attributes are read: withdrawn routes and announced ones. -/
namespace Go.Proofs.YtdgnhaacdpmclaaGreat
open Go.Am
set_option maxRecDepth 100000
noncomputable abbrev κq := tbl [(72, un_s 1), (64, un_s 3), (60, un_s 4), (65, ro_s)]
theorem qOk : KOk Tryz.prog κq := tbl_cons u8_n (tbl_cons u24_n (tbl_cons u32_n (tbl_cons ro_k ok0)))
noncomputable def roC (r : Rd) (es : List SV) : Bool := bif rdE (rstN r es) == 0 then (r.adv (lfI r).toNat).err == 0 else false
noncomputable def roK (r : Rd) (n : Nat) (es : List SV) (pb cb mb : Bool) (d : Ds) (o : Nat) (K : Bool → Ds → Rd → CTree) : CTree :=
 bif dec (roH r n es pb cb mb d = roH r n es pb cb mb d ∧ OkRd r es ∧ n = es.length ∧ byl es ∧ (o = 15 ∨ o = 16)) then K (roC r es) (dO o (rstN r es) d) (r.adv (lfI r).toNat) else .fail
theorem unr_t (r : Rd) (n : Nat) (es : List SV) (off fl cd : Int) (pb cb mb : Bool) (d : Ds) : opn κq Tryz.f63 (flA off fl cd) (flH r n es pb cb mb d) =
 ruC r n es (bif r.num es 3 == 6470 then roK (r.adv 3) n es pb cb mb d 16 (fun b d' r' => .ret (.bool b) [(3, some (dC pb cb mb d')), (0, some (rC r' n))]) else .ret (.bool false) [(0, some (rC (r.adv 3) n))]) := by
 cases pb <;> cases cb <;> cases mb <;> kernel_rfl
def dNx (d : Ds) (x : Int) : Ds := { d with nx := w3 x }
theorem rch_t (r : Rd) (n : Nat) (es : List SV) (off fl cd : Int) (pb cb mb : Bool) (d : Ds) : opn κq Tryz.f61 (flA off fl cd) (flH r n es pb cb mb d) =
 ruC r n es (bif r.num es 3 != 6470 then .ret (.bool false) [(0, some (rC (r.adv 3) n))] else ruC (r.adv 3) n es (bif (r.adv 3).num es 1 != 4 then .ret (.bool false) [(0, some (rC ((r.adv 3).adv 1) n))] else
  ruC ((r.adv 3).adv 1) n es (ruC (((r.adv 3).adv 1).adv 4) n es (bif (((r.adv 3).adv 1).adv 4).num es 1 == 0 then
   roK ((((r.adv 3).adv 1).adv 4).adv 1) n es pb cb mb (dNx d (((r.adv 3).adv 1).num es 4)) 15 (fun b d' r' => bif b then .ret (.bool (decide ((d'.rch.length : Int) > 0))) [(3, some (dC pb cb mb d')), (0, some (rC r' n))] else .ret (.bool false) [(3, some (dC pb cb mb d')), (0, some (rC r' n))])
   else .ret (.bool false) [(3, some (dC pb cb mb (dNx d (((r.adv 3).adv 1).num es 4)))), (0, some (rC ((((r.adv 3).adv 1).adv 4).adv 1) n))])))) := by
 cases pb <;> cases cb <;> cases mb <;> kernel_rfl
end Go.Proofs.YtdgnhaacdpmclaaGreat
/- Attributes are read: withdrawn routes, known. -/
namespace Go.Proofs.YtdgnhaacdpmclaaGreat
open Go.Am
set_option maxRecDepth 100000
theorem lfI_v {s t k : Nat} (h : s + k ≤ t) (ht : t ≤ 1000000) : lfI (RD (s + k) t) = ((t - s - k : Nat) : Int) := left_v h ht
theorem rst_v {es : List SV} {s t k : Nat} (h : s + k ≤ t) (ht : t ≤ 1000000) : rstN (RD (s + k) t) es = (vl es s t).drop k := by
 unfold rstN vl
 rw [lfI_v h ht, show ((t - s - k : Nat) : Int).toNat = t - s - k from rfl, sub_RD (by omega), sl_drop]
 rfl
theorem roC_v {es : List SV} {s t k : Nat} (h : s + k ≤ t) (ht : t ≤ 1000000) : roC (RD (s + k) t) es = (rdE ((vl es s t).drop k) == 0) := by
 unfold roC
 rw [rst_v h ht, lfI_v h ht, show ((t - s - k : Nat) : Int).toNat = t - s - k from rfl, adv_RD (by omega)]
 cases rdE ((vl es s t).drop k) == 0 <;> rfl
theorem roK_ok {r : Rd} {n : Nat} {es : List SV} {pb cb mb : Bool} {d : Ds} {o : Nat} (h1 : OkRd r es) (h2 : n = es.length) (h3 : byl es) (h4 : o = 15 ∨ o = 16) (K : Bool → Ds → Rd → CTree) : roK r n es pb cb mb d o K = K (roC r es) (dO o (rstN r es) d) (r.adv (lfI r).toNat) := by
 unfold roK; rw [dec_iff.2 ⟨rfl, h1, h2, h3, h4⟩]; rfl
theorem told_f {r r' : Rd} {n : Nat} {es : List SV} {pb cb mb : Bool} {d d' : Ds} {ups : List (Nat × Option Chunk)} (hu : ups = [(0, some (rC r' n))] ∨ ups = [(3, some (dC pb cb mb d')), (0, some (rC r' n))]) :
  Am.Told Tryz.prog (flH r n es pb cb mb d) (.bool false) ups (.bool false) [(3, some jk), (0, none)] := by
 rcases hu with rfl | rfl
 · exact ⟨.rfl', told3 (c3 := dC pb cb mb d) jk_of rfl (fun x h0 h6 => by simp only [updF, h0, if_false])⟩
 · exact ⟨.rfl', told3 (c3 := dC pb cb mb d') jk_of rfl (fun x h0 h6 => by simp only [updF, h0, h6, if_false])⟩
theorem told_t {r r' : Rd} {n : Nat} {es : List SV} {pb cb mb : Bool} {d d' : Ds} : Am.Told Tryz.prog (flH r n es pb cb mb d) (.bool true) [(3, some (dC pb cb mb d')), (0, some (rC r' n))] (.bool true) [(3, some (dC pb cb mb d')), (0, none)] :=
 ⟨.rfl', told3 (c3 := dC pb cb mb d') .rfl' rfl (fun x h0 h6 => by simp only [updF, h0, h6, if_false])⟩
noncomputable def unOk (v : List SV) : Bool := bif decide (3 ≤ v.length) then (bif tkN v 0 3 == 6470 then rdE (v.drop 3) == 0 else false) else false
noncomputable def unG (v : List SV) (d : Ds) : Ds := { d with unr := rdL (v.drop 3) }
theorem unr_k : Known Tryz.prog 63 (fl_s (fun _ _ _ => true) unOk unG id id id) := fl_of (openKnown qOk Tryz.func63 rfl) (by
 intro s t n es off fl cd pb cb mb d ho _
 have ht := unr_t (RD s t) n es off fl cd pb cb mb d
 have hl := ho.len
 have hr := ho.rd
 obtain ⟨h1, h2, h3, h4, h5⟩ := ho
 rw [ruC_ok hr h2] at ht
 by_cases h3' : s + 3 ≤ t
 · have a1 : (RD s t).adv 3 = RD (s + 3) t := adv_v (s := s) 0 3 (by omega)
   have m0 : (RD s t).num es 3 = tkN (vl es s t) 0 3 := num_v (n := n) (s := s) 0 3 (by omega)
   rw [m0, a1] at ht
   have hok : unOk (vl es s t) = (bif tkN (vl es s t) 0 3 == 6470 then rdE ((vl es s t).drop 3) == 0 else false) := by
    unfold unOk; rw [hl, decide_eq_true (show 3 ≤ t - s by omega)]; rfl
   rw [hok]
   cases hf : tkN (vl es s t) 0 3 == 6470 with
   | false =>
    rw [hf] at ht
    exact ⟨_, _, congrArg crun ht, .inr (told_f (d' := d) (.inl rfl))⟩
   | true =>
    rw [hf, cond_true, roK_ok (by rw [← a1]; exact hr.adv 3) h2 h1 (.inr rfl), roC_v h3' (by omega), rst_v h3' (by omega)] at ht
    rw [cond_true]
    refine ⟨_, _, congrArg crun ht, .inr ?_⟩
    cases rdE ((vl es s t).drop 3) == 0 with
    | false => exact told_f (.inr rfl)
    | true => exact told_t
 · have hok : unOk (vl es s t) = false := by unfold unOk; rw [hl, decide_eq_false (show ¬ 3 ≤ t - s by omega)]; rfl
   have hf : (RD s t).num es 3 = 0 := by
    have : (RD s t).few 3 = true := by unfold Rd.few RD; exact decide_eq_true (by simp only []; omega)
    unfold Rd.num; rw [this]; rfl
   rw [hf] at ht
   rw [hok]
   exact ⟨_, _, congrArg crun ht, .inr (told_f (d' := d) (.inl rfl))⟩)
end Go.Proofs.YtdgnhaacdpmclaaGreat
/- Attributes are read: announced routes, known. -/
namespace Go.Proofs.YtdgnhaacdpmclaaGreat
open Go.Am
set_option maxRecDepth 100000
noncomputable def rcOk (v : List SV) : Bool := bif decide (9 ≤ v.length) then (bif tkN v 0 3 == 6470 then (bif dg v 3 == 4 then (bif dg v 8 == 0 then (bif rdE (v.drop 9) == 0 then decide (((rdL (v.drop 9)).length : Int) > 0) else false) else false) else false) else false) else false
noncomputable def rcG (v : List SV) (d : Ds) : Ds := { d with nx := tkN v 4 4, rch := rdL (v.drop 9) }
theorem roC_bad {r : Rd} {es : List SV} (h : (r.err != 0) = true) : roC r es = false := by
 unfold roC
 rw [adv_bad h]
 have : (r.err == 0) = false := by simpa using h
 rw [this]
 cases rdE (rstN r es) == 0 <;> rfl
theorem rch_k : Known Tryz.prog 61 (fl_s (fun _ _ _ => true) rcOk rcG id id id) := fl_of (openKnown qOk Tryz.func61 rfl) (by
 intro s t n es off fl cd pb cb mb d ho _
 have ht := rch_t (RD s t) n es off fl cd pb cb mb d
 have hl := ho.len
 have hr := ho.rd
 obtain ⟨h1, h2, h3, h4, h5⟩ := ho
 have hv : byl (vl es s t) := h1.sl _ _
 rw [ruC_ok hr h2, ruC_ok (hr.adv 3) h2, ruC_ok ((hr.adv 3).adv 1) h2, ruC_ok (((hr.adv 3).adv 1).adv 4) h2, roK_ok ((((hr.adv 3).adv 1).adv 4).adv 1) h2 h1 (.inl rfl)] at ht
 by_cases h9 : s + 9 ≤ t
 · have a1 : (RD s t).adv 3 = RD (s + 3) t := adv_v (s := s) 0 3 (by omega)
   have a2 : (RD (s + 3) t).adv 1 = RD (s + 4) t := adv_v 3 1 (by omega)
   have a3 : (RD (s + 4) t).adv 4 = RD (s + 8) t := adv_v 4 4 (by omega)
   have a4 : (RD (s + 8) t).adv 1 = RD (s + 9) t := adv_v 8 1 (by omega)
   have m0 : (RD s t).num es 3 = tkN (vl es s t) 0 3 := num_v (n := n) (s := s) 0 3 (by omega)
   have m1 : (RD (s + 3) t).num es 1 = dg (vl es s t) 3 := by rw [← tk1]; exact num_v (n := n) 3 1 (by omega)
   have m2 : (RD (s + 4) t).num es 4 = tkN (vl es s t) 4 4 := num_v (n := n) 4 4 (by omega)
   have m3 : (RD (s + 8) t).num es 1 = dg (vl es s t) 8 := by rw [← tk1]; exact num_v (n := n) 8 1 (by omega)
   obtain ⟨q5, q6⟩ := tkN_rng hv.ok 4 4
   have hok : rcOk (vl es s t) = (bif tkN (vl es s t) 0 3 == 6470 then (bif dg (vl es s t) 3 == 4 then (bif dg (vl es s t) 8 == 0 then (bif rdE ((vl es s t).drop 9) == 0 then decide (((rdL ((vl es s t).drop 9)).length : Int) > 0) else false) else false) else false) else false) := by
    unfold rcOk; rw [hl, decide_eq_true (show 9 ≤ t - s by omega)]; rfl
   rw [a1, a2, a3, a4, m0, m1, m2, m3, roC_v h9 (by omega), rst_v h9 (by omega)] at ht
   rw [hok]
   cases hf : tkN (vl es s t) 0 3 == 6470 with
   | false =>
    rw [show (tkN (vl es s t) 0 3 != 6470) = true by unfold bne; rw [hf]; rfl] at ht
    exact ⟨_, _, congrArg crun ht, .inr (told_f (d' := d) (.inl rfl))⟩
   | true =>
    rw [show (tkN (vl es s t) 0 3 != 6470) = false by unfold bne; rw [hf]; rfl, cond_false] at ht
    rw [cond_true]
    cases hg : dg (vl es s t) 3 == 4 with
    | false =>
     rw [show (dg (vl es s t) 3 != 4) = true by unfold bne; rw [hg]; rfl] at ht
     exact ⟨_, _, congrArg crun ht, .inr (told_f (d' := d) (.inl rfl))⟩
    | true =>
     rw [show (dg (vl es s t) 3 != 4) = false by unfold bne; rw [hg]; rfl, cond_false] at ht
     rw [cond_true]
     cases hh : dg (vl es s t) 8 == 0 with
     | false =>
      rw [hh] at ht
      exact ⟨_, _, congrArg crun ht, .inr (told_f (.inr rfl))⟩
     | true =>
      rw [hh, cond_true] at ht
      rw [cond_true]
      cases hk : rdE ((vl es s t).drop 9) == 0 with
      | false =>
       rw [hk] at ht
       exact ⟨_, _, congrArg crun ht, .inr (told_f (.inr rfl))⟩
      | true =>
       rw [hk, cond_true] at ht
       rw [cond_true]
       have hd : dO 15 ((vl es s t).drop 9) (dNx d (tkN (vl es s t) 4 4)) = rcG (vl es s t) d := by
        unfold dO dNx rcG
        rw [w3_id q5 q6]; rfl
       rw [hd] at ht
       refine ⟨_, _, congrArg crun ht, .inr ?_⟩
       show Am.Told _ _ (.bool (decide (((rdL ((vl es s t).drop 9)).length : Int) > 0))) _ _ _
       cases decide (((rdL ((vl es s t).drop 9)).length : Int) > 0) with
       | false => exact told_f (.inr rfl)
       | true => exact told_t
 · have hok : rcOk (vl es s t) = false := by unfold rcOk; rw [hl, decide_eq_false (show ¬ 9 ≤ t - s by omega)]; rfl
   rw [hok]
   have hbad : (((((((RD s t).adv 3).adv 1).adv 4).adv 1)).err != 0) = true := by
    by_cases c1 : s + 3 ≤ t
    · have a1 : (RD s t).adv 3 = RD (s + 3) t := adv_v (s := s) 0 3 (by omega)
      rw [a1]
      by_cases c2 : s + 4 ≤ t
      · rw [adv_v (s := s) (t := t) 3 1 (by omega)]
        by_cases c3 : s + 8 ≤ t
        · rw [adv_v (s := s) (t := t) (3 + 1) 4 (by omega)]; exact few_err (by omega)
        · exact adv_err (few_err (by omega)) _
      · exact adv_err (adv_err (few_err (by omega)) _) _
    · exact adv_err (adv_err (adv_err (few_err c1) _) _) _
   rw [roC_bad hbad] at ht
   cases hf : ((RD s t).num es 3 != 6470) with
   | true => rw [hf] at ht; exact ⟨_, _, congrArg crun ht, .inr (told_f (d' := d) (.inl rfl))⟩
   | false =>
    rw [hf, cond_false] at ht
    cases hg : (((RD s t).adv 3).num es 1 != 4) with
    | true => rw [hg] at ht; exact ⟨_, _, congrArg crun ht, .inr (told_f (d' := d) (.inl rfl))⟩
    | false =>
     rw [hg, cond_false] at ht
     cases hh : ((((RD s t).adv 3).adv 1).adv 4).num es 1 == 0 with
     | true => rw [hh] at ht; exact ⟨_, _, congrArg crun ht, .inr (told_f (.inr rfl))⟩
     | false => rw [hh] at ht; exact ⟨_, _, congrArg crun ht, .inr (told_f (.inr rfl))⟩)
end Go.Proofs.YtdgnhaacdpmclaaGreat
/- Attributes are read: lists of words, the loops' summaries. -/
namespace Go.Proofs.YtdgnhaacdpmclaaGreat
open Go.Am
set_option maxRecDepth 100000
def rCk (k : Nat) (r : Rd) (n : Nat) : Chunk := .cells 121 [.int .i64 r.at_, .int .i64 r.end_, .qs k 1 0 n, .int .i64 r.err, .int .i64 r.fat, .bool true]
def dLx (p c m : SV) (d : Ds) : Chunk := .cells 63 [.int .i64 d.ori, p, .int .u32 d.nx, .bool d.hm, .int .u32 d.med, .bool d.hp, .int .u32 d.prf, .bool d.ho, .int .u32 d.orr, c, m, .int .i64 d.tk, .int .u32 d.tl, .int .u32 d.tr, .int .u32 d.tg, .psl 49 d.rch, .psl 49 d.unr]
structure Ax where
 (off fl cd : Int)
def aC (k : Nat) (x : Ax) : Chunk := .cells 76 [.ptr k 0, .int .i64 x.off, .int .u8 x.fl, .int .u8 x.cd]
def wd (es : List SV) (a : Nat) : Nat → List SV
 | 0 => []
 | k + 1 => .int .u32 (tkN es a 4) :: wd es (a + 4) k
theorem wd_len (es : List SV) : ∀ (k a : Nat), (wd es a k).length = k
 | 0, _ => rfl
 | k + 1, a => by simp [wd, wd_len es k (a + 4)]
def cw (es : List SV) (a : Nat) : Nat → List SV
 | 0 => []
 | k + 1 => .agg (bvals (sl es a 8) 0 8) :: cw es (a + 8) k
theorem cw_len (es : List SV) : ∀ (k a : Nat), (cw es a k).length = k
 | 0, _ => rfl
 | k + 1, a => by simp [cw, cw_len es k (a + 8)]
def bsOf : SV → Bool
 | .psl _ _ => false
 | _ => true
def dQ : List SV → Option (Bool × Bool × Bool × Ds)
 | [.int .i64 ori, p, .int .u32 nx, .bool hm, .int .u32 med, .bool hp, .int .u32 prf, .bool ho, .int .u32 orr, c, m, .int .i64 tk, .int .u32 tl, .int .u32 tr, .int .u32 tg, .psl 49 rch, .psl 49 unr] =>
  some (bsOf p, bsOf c, bsOf m, ⟨ori, nx, med, prf, orr, tk, tl, tr, tg, hm, hp, ho, asL p, asL c, asL m, rch, unr⟩)
 | _ => none
def pOk (z s t n : Nat) (es : List SV) (m i : Int) : Prop := okV es n s t ∧ 0 ≤ i ∧ i ≤ m ∧ m ≤ 1000 ∧ s + z * (m - i).toNat ≤ t
theorem byP_f (r : Rd) (n : Nat) (es rs : List SV) (c : Chunk) : Frozen Tryz.prog (rH r n es) (.qs 2 1 0 rs.length) [(0, some c), (2, some (.seq 5 rs))] (.psl 5 rs) [(0, some c)] := by
 refine ⟨2, 5, rs, rfl, .qs rfl, fun x c' hx => ?_⟩
 by_cases h0 : x = 0
 · subst h0; simp only [updF, if_true] at hx; cases hx; exact ⟨by decide, _, rfl, .rfl'⟩
 · simp only [updF, h0, if_false] at hx
   have h2 : x ≠ 2 := by rintro rfl; cases hx
   exact ⟨h2, c', by simp only [updF, h0, h2, if_false]; exact hx, .rfl'⟩
noncomputable def byP_s : CSumm := fun args H => match args with
 | [.ptr 0 0, .int .i64 k] => match rOf H with
  | some (r, n, es) => .ite (dec (OkRd r es ∧ n = es.length ∧ 0 ≤ k ∧ k ≤ 1000000)) (.ret (.psl 5 (r.sub es k.toNat)) [(0, some (rC (r.adv k.toNat) n))]) .fail
  | none => .fail
 | _ => .fail
theorem byP_k : Known Tryz.prog 67 byP_s := known_frz byR_k (by
 intro args H v ups h
 unfold byP_s at h
 split at h
 · rename_i k
   split at h
   · rename_i r n es hr
     rw [crun_ite] at h
     cases hc : dec (OkRd r es ∧ n = es.length ∧ 0 ≤ k ∧ k ≤ 1000000) with
     | false => rw [hc] at h; cases h
     | true =>
      rw [hc, cond_true] at h
      cases h
      refine .inr ⟨.qs 2 1 0 (r.sub es k.toNat).length, [(0, some (rC (r.adv k.toNat) n)), (2, some (.seq 5 (r.sub es k.toNat)))], ?_, ?_⟩
      · unfold byR_s
        simp only [hr]
        rw [crun_ite, hc]; rfl
      · rw [rOf_h hr]; exact byP_f ..
   · cases h
 · cases h)
noncomputable abbrev κpt := tbl [(60, un_s 4), (67, byP_s)]
theorem pttOk : KOk Tryz.prog κpt := tbl_cons u32_n (tbl_cons byP_k ok0)
noncomputable abbrev κy := openT Tryz.prog κpt 300 5
noncomputable abbrev ιy : Nat → Bool := fun g => inl κpt g && hasBody Tryz.prog g
/- The path. -/
noncomputable def body54 : Code := Tryz.f54.body.getD .skip
noncomputable def c54 : Code := (loopAt 8 body54).getD .skip
def pA (r : Rd) (n : Nat) (es : List SV) (x : Ax) (cb mb : Bool) (d : Ds) : HpL := [(0, dLx .nils (nz cb 27 d.cl) (nz mb 91 d.cm) d), (1, aC 2 x), (2, rCk 3 r n), (3, .seq 5 es)]
def pB (r : Rd) (n : Nat) (es : List SV) (x : Ax) (cb mb : Bool) (d : Ds) (j : Nat) (l : List SV) : HpL := [(0, dLx (.qs 1 1 0 j) (nz cb 27 d.cl) (nz mb 91 d.cm) d), (1, .seq 26 l), (2, aC 3 x), (3, rCk 4 r n), (4, .seq 5 es)]
noncomputable def pt_s : CSumm := fun args H => match args, H with
 | [.ptr 0 0, .ptr 1 0, .int .i64 m, .int .i64 i], [(0, .cells 63 cs), (1, .cells 76 [_, .int .i64 off, .int .u8 fl, .int .u8 cd]), (2, .cells 121 [.int .i64 a, .int .i64 e, .qs 3 1 0 n, _, _, _]), (3, .seq 5 es)] =>
  match dQ cs with
  | some (_, c, k, d) => .ite (dec (H = pA (RD a.toNat e.toNat) n es ⟨off, fl, cd⟩ c k d ∧ pOk 4 a.toNat e.toNat n es m i ∧ i < m))
    (.ret (.tup [.int .i64 2]) [(0, some (dLx (.qs 4 1 0 (m - i).toNat) (nz c 27 d.cl) (nz k 91 d.cm) d)), (2, some (rCk 3 (RD (a.toNat + 4 * (m - i).toNat) e.toNat) n)), (4, some (.seq 26 (wd es a.toNat (m - i).toNat)))]) .fail
  | none => .fail
 | [.ptr 0 0, .ptr 2 0, .int .i64 m, .int .i64 i], [(0, .cells 63 cs), (1, .seq 26 l), (2, .cells 76 [_, .int .i64 off, .int .u8 fl, .int .u8 cd]), (3, .cells 121 [.int .i64 a, .int .i64 e, .qs 4 1 0 n, _, _, _]), (4, .seq 5 es)] =>
  match dQ cs with
  | some (_, c, k, d) => .ite (dec (H = pB (RD a.toNat e.toNat) n es ⟨off, fl, cd⟩ c k d l.length l ∧ pOk 4 a.toNat e.toNat n es m i ∧ l.length + (m - i).toNat ≤ 2000))
    (.ret (.tup [.int .i64 2]) [(0, some (dLx (.qs 5 1 0 (l.length + (m - i).toNat)) (nz c 27 d.cl) (nz k 91 d.cm) d)), (1, none), (3, some (rCk 4 (RD (a.toNat + 4 * (m - i).toNat) e.toNat) n)), (5, some (.seq 26 (l ++ wd es a.toNat (m - i).toNat)))]) .fail
  | none => .fail
 | _, _ => .fail
def ptM : List SV → HpL → Nat
 | [_, _, .int _ m, .int _ i], _ => (m - i).toNat
 | _, _ => 0
noncomputable def e54 : LEnt := { ins := [0, 3, 36, 37], outs := [], keep := [], size := 55, code := c54, s := pt_s }
end Go.Proofs.YtdgnhaacdpmclaaGreat
