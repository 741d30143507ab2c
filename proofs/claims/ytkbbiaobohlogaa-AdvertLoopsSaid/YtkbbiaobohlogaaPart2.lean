/- What is advertised: what is accepted. -/
import Derived.Test.YtkbbiaobohlogaaPart1
import Derived.Test.YtkbbiaobohlogaaMachine8
set_option linter.unusedVariables false
set_option linter.unusedSimpArgs false
namespace Go.Proofs.Ytkbbiaobohlogaa
open Go.Am
set_option maxRecDepth 100000
def ixF (v : Int) : List SV → Int → Int
 | [], _ => -1
 | x :: l, i => bif v == asI x then i else ixF v l (i + 1)
def ixOk (cs : List SV) (n i : Int) : Prop := n = cs.length ∧ 0 ≤ i ∧ i ≤ n ∧ n ≤ 1000000
noncomputable def body49 : Code := Try.f49.body.getD .skip
noncomputable def c49 : Code := (loopAt 2 body49).getD .skip
def ixT (k : Int) : CTree := .ite (decide (0 ≤ k)) (.ret (.tup [.int .i64 1, .int .i64 k]) []) (.ret (.tup [.int .i64 2, .junk]) [])
def ixB (k : Int) : CTree := bif decide (0 ≤ k) then .ret (.tup [.int .i64 1, .int .i64 k]) [] else .ret (.tup [.int .i64 2, .junk]) []
theorem ixTB (k : Int) : crun (ixT k) = crun (ixB k) := by unfold ixT ixB; rw [crun_ite, crun_cond]
noncomputable def ix_s : CSumm := fun args H => match args, H with
 | [.psl 35 cs, .int .u32 v, .int .i64 n, .int .i64 i], [] => .ite (dec (ixOk cs n i)) (ixT (ixF v (cs.drop i.toNat) i)) .fail
 | _, _ => .fail
def ixM : List SV → HpL → Nat
 | [_, _, .int _ n, .int _ i], _ => (n - i).toNat
 | _, _ => 0
noncomputable def e49 : LEnt := { ins := [0, 1, 7, 8], outs := [4], keep := [], size := 19, code := c49, s := ix_s }
noncomputable def ixN (N : Nat) (cs : List SV) (v n i : Int) : CTree := bif Nat.blt (n - i).toNat N then bif dec (ixOk cs n i) then ixB (ixF v (cs.drop i.toNat) i) else .fail else .fail
theorem ix_t (N : Nat) (cs : List SV) (v n i : Int) : loopOnce Try.prog (tbl []) (fun _ => false) (ltab []) true 300 e49 { e49 with s := boundT ixM ix_s N } c49 [.psl 35 cs, .int .u32 v, .int .i64 n, .int .i64 i] [] =
 bif decide (i < n) then bif inB i cs.length then bif v == asI (cs.getD i.toNat .junk) then .ret (.tup [.int .i64 1, .int .i64 i]) [] else ixN N cs v n (w64 (i + 1)) else .fail
 else .ret (.tup [.int .i64 2, .junk]) [] := by kernel_rfl
theorem getD_cons' {cs : List SV} {k : Nat} (h : k < cs.length) : cs.drop k = cs.getD k .junk :: cs.drop (k + 1) := by
 rw [List.drop_eq_getElem_cons h]
 simp [List.getD_eq_getElem?_getD, h]
theorem inB_ok {i : Int} {n : Nat} (h1 : 0 ≤ i) (h2 : i < n) : inB i n = true := by unfold inB; simp; omega
theorem ix_valid : ValidL Try.prog e49 := loop_valid (κ := tbl []) (ι := fun _ => false) (T := ltab []) (sp := true) (fuel := 300) (c := c49) (μ := ixM) ok0 mixTry ltab_nil (show fillC (ltab []) c49 = c49 by kernel_rfl) (by
 intro N args H r hb h
 unfold e49 ix_s at h
 simp only [] at h
 split at h
 · rename_i cs v n i
   rw [crun_ite] at h
   cases hc : dec (ixOk cs n i) with
   | false => rw [hc] at h; cases h
   | true =>
    rw [hc, cond_true] at h
    obtain ⟨rfl, i0, i1, n1⟩ := dec_iff.1 hc
    refine (congrArg crun (ix_t N cs v cs.length i)).trans ?_
    have hN : Nat.blt ((cs.length : Int) - i).toNat (N + 1) = true := hb
    rw [Nat.blt_eq] at hN
    obtain ⟨k, rfl⟩ := Int.eq_ofNat_of_zero_le i0
    have hk : ((k : Nat) : Int).toNat = k := rfl
    rw [hk, ixTB] at h
    rw [hk]
    by_cases hi : (k : Int) < cs.length
    · have hkl : k < cs.length := by omega
      rw [decide_eq_true hi, cond_true, inB_ok (by omega) (by omega), cond_true]
      rw [getD_cons' hkl, ixF] at h
      cases hv : v == asI (cs.getD k .junk) with
      | true =>
       rw [hv, cond_true] at h
       rw [cond_true, ← h]
       unfold ixB
       rw [decide_eq_true i0, cond_true]
      | false =>
       rw [hv, cond_false] at h
       have e1 : w64 ((k : Int) + 1) = ((k + 1 : Nat) : Int) := (w64_id (by omega) (by omega)).trans (by omega)
       rw [cond_false, e1]
       unfold ixN
       rw [show Nat.blt ((cs.length : Int) - ((k + 1 : Nat) : Int)).toNat N = true by rw [Nat.blt_eq]; omega, cond_true, dec_iff.2 ⟨rfl, by omega, by omega, n1⟩, cond_true, show ((k + 1 : Nat) : Int).toNat = k + 1 from rfl]
       rw [show ((k : Nat) : Int) + 1 = ((k + 1 : Nat) : Int) by omega] at h
       exact h
    · have : cs.drop k = [] := List.drop_eq_nil_of_le (by omega)
      rw [this] at h
      rw [decide_eq_false hi, cond_false]
      exact h
 · cases h)
noncomputable abbrev T49 : LTab := ltab [("x", e49)]
noncomputable abbrev m49 : Code := markC [(2, "x")] body49
noncomputable def index_b : CSumm := bodyCL Try.prog (tbl []) (fun _ => false) T49 true 300 Try.f49 m49
theorem index_k0 : Known Try.prog 49 index_b := ⟨⟨Try.f49, Try.func49, noNum_at noNumTry Try.func49, rfl⟩, bodyL_valid ok0 mixTry (ltab_cons ix_valid ltab_nil) Try.func49 (show Try.f49.body = some (fillC T49 m49) by kernel_rfl)⟩
theorem index_t (cs : List SV) (v : Int) : index_b [.psl 35 cs, .int .u32 v] [] = bif dec (ixOk cs cs.length 0) then bif decide (0 ≤ ixF v (cs.drop (0 : Int).toNat) 0) then .ret (.int .i64 (ixF v (cs.drop (0 : Int).toNat) 0)) [] else .ret (.int .i64 (-1)) [] else .fail := by kernel_rfl
theorem ixF_neg : ∀ (v : Int) (l : List SV) (i : Int), 0 ≤ i → ¬ 0 ≤ ixF v l i → ixF v l i = -1
 | v, [], i, _, _ => rfl
 | v, x :: l, i, hi, h => by
  unfold ixF at h ⊢
  cases hx : v == asI x with
  | true => rw [hx, cond_true] at h; omega
  | false =>
   rw [hx, cond_false] at h
   rw [cond_false]
   exact ixF_neg v l (i + 1) (by omega) h
theorem ixF_mem : ∀ (v : Int) (l : List SV) (i : Int), 0 ≤ i → (∃ x ∈ l, asI x = v) → 0 ≤ ixF v l i
 | v, [], i, _, ⟨x, hx, _⟩ => by cases hx
 | v, y :: l, i, hi, ⟨x, hx, hv⟩ => by
  unfold ixF
  cases hy : v == asI y with
  | true => rw [cond_true]; exact hi
  | false =>
   rw [cond_false]
   rcases List.mem_cons.1 hx with rfl | hx
   · rw [hv] at hy; simp at hy
   · exact ixF_mem v l (i + 1) (by omega) ⟨x, hx, hv⟩
def index_s : CSumm := fun args H => match args, H with
 | [.psl 35 cs, .int .u32 v], [] => .ite (decide (cs.length ≤ 1000000)) (.ret (.int .i64 (ixF v cs 0)) []) .fail
 | _, _ => .fail
theorem index_k : Known Try.prog 49 index_s := index_k0.weak (by
 intro args H v ups h
 unfold index_s at h
 split at h
 · rename_i cs x
   rw [crun_ite] at h
   cases hc : decide (cs.length ≤ 1000000) with
   | false => rw [hc] at h; cases h
   | true =>
    rw [hc, cond_true] at h
    have hl := of_decide_eq_true hc
    refine (congrArg crun (index_t cs x)).trans ?_
    rw [dec_iff.2 ⟨rfl, by omega, by omega, by omega⟩, cond_true, show cs.drop (0 : Int).toNat = cs from rfl, ← h]
    by_cases hk : 0 ≤ ixF x cs 0
    · rw [decide_eq_true hk, cond_true]
    · rw [decide_eq_false hk, cond_false, ixF_neg x cs 0 (by omega) hk]
 · cases h)
noncomputable abbrev κi := tbl [(49, index_s)]
theorem iOk : KOk Try.prog κi := tbl_cons index_k ok0
theorem contains_t (cs : List SV) (v : Int) : opn κi Try.f33 [.psl 35 cs, .int .u32 v] [] = bif decide (cs.length ≤ 1000000) then .ret (.bool (decide (0 ≤ ixF v cs 0))) [] else .fail := by kernel_rfl
def contains_s : CSumm := fun args H => match args, H with
 | [.psl 35 cs, .int .u32 v], [] => .ite (decide (cs.length ≤ 1000000)) (.ret (.bool (decide (0 ≤ ixF v cs 0))) []) .fail
 | _, _ => .fail
theorem contains_k : Known Try.prog 33 contains_s := (openKnown iOk Try.func33 rfl).weak (by
 intro args H v ups h
 unfold contains_s at h
 split at h
 · rename_i cs x
   rw [crun_ite] at h
   rw [← h]
   exact (congrArg crun (contains_t cs x)).trans (crun_cond _ _ _)
 · cases h)
noncomputable abbrev κn := tbl [(33, contains_s)]
theorem nOk : KOk Try.prog κn := tbl_cons contains_k ok0
def acC (c : Int) (r : Rt) : CTree := bif c != 0 then bif decide (r.d.cl.length ≤ 1000000) then bif decide (0 ≤ ixF c r.d.cl 0) then .ret (.int .i64 12) [] else .ret (.int .i64 0) [] else .fail else .ret (.int .i64 0) []
theorem accept_t (s c : Int) (r : Rt) : opn κn Try.f16 [.int .u32 s, .int .u32 c, .agg r.cs] [] =
 bif (bif r.d.ho then r.d.orr == s else false) then .ret (.int .i64 12) [] else acC c r := by kernel_rfl
end Go.Proofs.Ytkbbiaobohlogaa
/- What is advertised: what is accepted, known; the inner loop of the law. -/
namespace Go.Proofs.Ytkbbiaobohlogaa
open Go.Am
set_option maxRecDepth 100000
noncomputable def accept_s : CSumm := fun args H => match args, H with
 | [.int .u32 s, .int .u32 c, .agg cs], [] => .ite (dec (cs = (rOf cs).cs ∧ (rOf cs).d.cl.length ≤ 1000)) (.ite ((rOf cs).d.ho && (rOf cs).d.orr == s) (.ret (.int .i64 12) []) (.ite (c != 0 && decide (0 ≤ ixF c (rOf cs).d.cl 0)) (.ret (.int .i64 12) []) (.ret (.int .i64 0) []))) .fail
 | _, _ => .fail
theorem accept_k : Known Try.prog 16 accept_s := (openKnown nOk Try.func16 rfl).weak (by
 intro args H v ups h
 unfold accept_s at h
 split at h
 · rename_i s c cs
   rw [crun_ite] at h
   cases hc : dec (cs = (rOf cs).cs ∧ (rOf cs).d.cl.length ≤ 1000) with
   | false => rw [hc] at h; cases h
   | true =>
    rw [hc, cond_true] at h
    obtain ⟨h1, h2⟩ := dec_iff.1 hc
    generalize rOf cs = r at h1 h2 h
    subst h1
    refine (congrArg crun (accept_t s c r)).trans ?_
    rw [crun_ite] at h
    have hac : crun (.ite (c != 0 && decide (0 ≤ ixF c r.d.cl 0)) (.ret (.int .i64 12) []) (.ret (.int .i64 0) [])) = crun (acC c r) := by
     unfold acC
     rw [crun_ite]
     cases c != 0 with
     | false => rfl
     | true =>
      rw [decide_eq_true (show r.d.cl.length ≤ 1000000 by omega)]
      by_cases hk : 0 ≤ ixF c r.d.cl 0
      · rw [decide_eq_true hk]; rfl
      · rw [decide_eq_false hk]; rfl
    cases hb : r.d.ho with
    | false =>
     rw [hb, Bool.false_and, cond_false] at h
     rw [cond_false, cond_false, ← hac]; exact h
    | true =>
     rw [hb, Bool.true_and] at h
     rw [cond_true]
     cases ho : r.d.orr == s with
     | true => rw [ho, cond_true] at h; rw [cond_true]; exact h
     | false => rw [ho, cond_false] at h; rw [cond_false, ← hac]; exact h
 · cases h)
noncomputable def body4 : Code := Try.f4.body.getD .skip
noncomputable def c25 : Code := (loopAt 25 body4).getD .skip
def inOk (ks cs : List SV) (f i k : Int) : Prop := cs = (rOf cs).cs ∧ (rOf cs).d.ho = true ∧ (rOf cs).d.orr = f ∧ 0 ≤ f ∧ f < 4294967296 ∧ 0 ≤ k ∧ k ≤ i + 1 ∧ i < ks.length ∧ ks.length ≤ 1000 ∧ (rOf cs).d.cl.length ≤ 1000 ∧
 ∀ j : Nat, (j : Int) ≤ i → ∃ y ∈ (rOf cs).d.cl, asI y = asI (ks.getD j .junk)
def inX (ks : List SV) (f i : Int) : CTree := .ret (.tup [.int .i64 4, .psl 35 ks, .int .u32 f, .ptr 0 0, .int .i64 i]) []
noncomputable def in_s : CSumm := fun args H => match args, H with
 | [.psl 35 ks, .int .u32 f, .ptr 0 0, .int .i64 i, .int .i64 k], [(0, .cells 48 cs)] => .ite (dec (inOk ks cs f i k)) (inX ks f i) .fail
 | _, _ => .fail
def inM : List SV → HpL → Nat
 | [_, _, _, .int _ i, .int _ k], _ => (i + 1 - k).toNat
 | _, _ => 0
noncomputable def e25 : LEnt := { ins := [1, 5, 6, 7, 11], outs := [1, 5, 6, 7], keep := [], size := 124, code := c25, s := in_s }
noncomputable abbrev κa := tbl [(16, accept_s)]
theorem aOk : KOk Try.prog κa := tbl_cons accept_k ok0
noncomputable def inN (N : Nat) (ks cs : List SV) (f i k : Int) : CTree := bif Nat.blt (i + 1 - k).toNat N then bif dec (inOk ks cs f i k) then inX ks f i else .fail else .fail
noncomputable def inA (c f : Int) (r : Rt) (K F : CTree) : CTree := bif dec (r.cs = (rOf r.cs).cs ∧ (rOf r.cs).d.cl.length ≤ 1000) then bif r.d.ho && r.d.orr == IntKind.u32.wrap (f + 1) then K else bif c != 0 && decide (0 ≤ ixF c r.d.cl 0) then K else F else .fail
theorem in_t (N : Nat) (ks : List SV) (f i k : Int) (r : Rt) : loopOnce Try.prog κa (fun _ => false) (ltab []) true 300 e25 { e25 with s := boundT inM in_s N } c25 [.psl 35 ks, .int .u32 f, .ptr 0 0, .int .i64 i, .int .i64 k] [(0, .cells 48 r.cs)] =
 bif decide (k ≤ i) then bif inB k ks.length then bif asI (ks.getD k.toNat .junk) != 0 then bif inB k ks.length then
  inA (asI (ks.getD k.toNat .junk)) f r (inN N ks r.cs f i (w64 (k + 1))) (.ret (.tup [.int .i64 1, .psl 35 ks, .int .u32 f, .ptr 0 0, .int .i64 i]) []) else .fail
 else inN N ks r.cs f i (w64 (k + 1)) else .fail
 else inX ks f i := by kernel_rfl
end Go.Proofs.Ytkbbiaobohlogaa
/- What is advertised: the inner loop of the law, known. -/
namespace Go.Proofs.Ytkbbiaobohlogaa
open Go.Am
set_option maxRecDepth 100000
theorem w32_ne {f : Int} (h0 : 0 ≤ f) (h1 : f < 4294967296) : (f == IntKind.u32.wrap (f + 1)) = false := by
 rw [beq_eq_false_iff_ne]
 simp [IntKind.wrap, IntKind.bits, IntKind.signed]
 omega
theorem in_valid : ValidL Try.prog e25 := loop_valid (κ := κa) (ι := fun _ => false) (T := ltab []) (sp := true) (fuel := 300) (c := c25) (μ := inM) aOk mixTry ltab_nil (show fillC (ltab []) c25 = c25 by kernel_rfl) (by
 intro N args H v hb h
 unfold e25 in_s at h
 simp only [] at h
 split at h
 · rename_i ks f i k cs
   rw [crun_ite] at h
   cases hc : dec (inOk ks cs f i k) with
   | false => rw [hc] at h; cases h
   | true =>
    rw [hc, cond_true] at h
    have hok := dec_iff.1 hc
    obtain ⟨h1, hr⟩ := hok
    generalize hq : rOf cs = r at h1 hr
    subst h1
    obtain ⟨ho, rfl, f0, f1, k0, k1, il, kl, cl, hm⟩ := hr
    refine (congrArg crun (in_t N ks r.d.orr i k r)).trans ?_
    have hN : Nat.blt (i + 1 - k).toNat (N + 1) = true := hb
    rw [Nat.blt_eq] at hN
    by_cases hki : k ≤ i
    · rw [decide_eq_true hki, cond_true, inB_ok (by omega) (by omega), cond_true, cond_true]
      have tail : crun (inN N ks r.cs r.d.orr i (w64 (k + 1))) = some v := by
       rw [show w64 (k + 1) = k + 1 from w64_id (by omega) (by omega)]
       unfold inN
       rw [show Nat.blt (i + 1 - (k + 1)).toNat N = true by rw [Nat.blt_eq]; omega, cond_true, dec_iff.2 ⟨rfl, ho, rfl, f0, f1, by omega, by omega, il, kl, cl, hm⟩, cond_true]
       exact h
      cases hz : asI (ks.getD k.toNat .junk) != 0 with
      | false => rw [cond_false]; exact tail
      | true =>
       rw [cond_true]
       unfold inA
       rw [dec_iff.2 ⟨rfl, cl⟩, cond_true, ho, Bool.true_and, w32_ne f0 f1, cond_false, hz, Bool.true_and, decide_eq_true (ixF_mem _ _ 0 (by omega) (hm k.toNat (by omega))), cond_true]
       exact tail
    · rw [decide_eq_false hki, cond_false]
      exact h
 · cases h)
end Go.Proofs.Ytkbbiaobohlogaa
/- What is advertised: attributes are the same. -/
namespace Go.Proofs.Ytkbbiaobohlogaa
open Go.Am
set_option maxRecDepth 100000
theorem known_pick {f : FuncId} {s1 s2 : CSumm} (h1 : Known Try.prog f s1) (h2 : Known Try.prog f s2) (p : List SV → HpL → Bool) : Known Try.prog f (fun args H => bif p args H then s1 args H else s2 args H) := by
 refine ⟨h1.fn, fun args H v ups hr => ?_⟩
 cases hp : p args H with
 | true => rw [hp] at hr; exact h1.ok args H v ups hr
 | false => rw [hp] at hr; exact h2.ok args H v ups hr
noncomputable def same31q_s : CSumm := fun args H => match args, H with
 | [.psl 35 a, .qs 0 1 0 n], [(0, .seq 35 b)] => .ite (dec (a = b ∧ n = b.length ∧ a.length ≤ 100000)) (.ret (.bool true) []) .fail
 | _, _ => .fail
theorem cells35 : Try.prog.cellsOf 35 = 1 := by kernel_rfl
theorem same31q_k : Known Try.prog 31 same31q_s := known_view2 same31_k (by
 intro args H v ups h
 unfold same31q_s at h
 split at h
 · rename_i a n b
   rw [crun_ite] at h
   cases hc : dec (a = b ∧ n = b.length ∧ a.length ≤ 100000) with
   | false => rw [hc] at h; cases h
   | true =>
    rw [hc, cond_true] at h
    obtain ⟨rfl, rfl, h1⟩ := dec_iff.1 hc
    cases h
    refine ⟨[.psl 35 a], 35, a, 0, a.length, 1, rfl, rfl, cells35.symm, by omega, rfl, rfl, fun x => rfl, ?_⟩
    rw [List.drop_zero, List.take_length]
    show crun (.ite (dec (a = a ∧ a.length ≤ 100000)) (.ret (.bool true) []) .fail) = _
    rw [dec_iff.2 ⟨rfl, h1⟩]; rfl
 · cases h)
def isQ : List SV → Bool
 | [_, .qs _ _ _ _] => true
 | _ => false
noncomputable def sm31_a : CSumm := fun args H => bif isQ args then same31q_s args H else coS [[some 35], [some 35]] same31_s args H
theorem sm31_k : Known Try.prog 31 sm31_a := known_pick same31q_k (same31_k.co _) fun args _ => isQ args
noncomputable abbrev sm30_a : CSumm := coS [[some 33], [some 33]] same30_s
noncomputable abbrev sm32_a : CSumm := coS [[some 80], [some 80]] same32_s
noncomputable abbrev κs := tbl [(30, sm30_a), (31, sm31_a), (32, sm32_a)]
theorem sOk : KOk Try.prog κs := tbl_cons (same30_k.co _) (tbl_cons sm31_k (tbl_cons (same32_k.co _) ok0))
noncomputable def smC (a b : List SV) (K : CTree) : CTree := bif dec (a = b ∧ a.length ≤ 100000) then K else .fail
noncomputable def smQ (a b : List SV) (n : Nat) (K : CTree) : CTree := bif dec (a = b ∧ n = b.length ∧ a.length ≤ 100000) then K else .fail
def zsF : CTree := .ret (.bool false) []
theorem sat_t (d : At) : opn κs Try.f15 [d.v, d.v] [] =
 bif d.ori == d.ori then smC d.path d.path (bif d.nx == d.nx then bif d.hm == d.hm then bif d.med == d.med then bif d.hp == d.hp then bif d.prf == d.prf then bif d.ho == d.ho then bif d.orr == d.orr then
  smC d.cl d.cl (smC d.cm d.cm (.ret (.bool (d.tk == d.tk && (d.tl == d.tl && (d.tr == d.tr && d.tg == d.tg)))) [])) else zsF else zsF else zsF else zsF else zsF else zsF else zsF) else zsF := by kernel_rfl
def At.q (d : At) (n : Nat) : List SV := [.int .i64 d.ori, .psl 33 d.path, .int .u32 d.nx, .bool d.hm, .int .u32 d.med, .bool d.hp, .int .u32 d.prf, .bool d.ho, .int .u32 d.orr, .qs 0 1 0 n, .psl 80 d.cm, .int .i64 d.tk, .int .u32 d.tl, .int .u32 d.tr, .int .u32 d.tg]
theorem saq_t (d : At) (n : Nat) (b : List SV) : opn κs Try.f15 [d.v, .agg (d.q n)] [(0, .seq 35 b)] =
 bif d.ori == d.ori then smC d.path d.path (bif d.nx == d.nx then bif d.hm == d.hm then bif d.med == d.med then bif d.hp == d.hp then bif d.prf == d.prf then bif d.ho == d.ho then bif d.orr == d.orr then
  smQ d.cl b n (smC d.cm d.cm (.ret (.bool (d.tk == d.tk && (d.tl == d.tl && (d.tr == d.tr && d.tg == d.tg)))) [])) else zsF else zsF else zsF else zsF else zsF else zsF else zsF) else zsF := by kernel_rfl
noncomputable def sameA1_s : CSumm := fun args H => match args, H with
 | [.agg x, .agg y], [] => .ite (dec (x = (aOf x).cs ∧ y = x ∧ aSz (aOf x))) (.ret (.bool true) []) .fail
 | _, _ => .fail
noncomputable def sameA2_s : CSumm := fun args H => match args, H with
 | [.agg x, .agg y], [(0, .seq 35 b)] => .ite (dec (x = (aOf x).cs ∧ y = (aOf x).q b.length ∧ (aOf x).cl = b ∧ aSz (aOf x))) (.ret (.bool true) []) .fail
 | _, _ => .fail
theorem sameA1_k : Known Try.prog 15 sameA1_s := (openKnown sOk Try.func15 rfl).weak (by
 intro args H v ups h
 unfold sameA1_s at h
 split at h
 · rename_i x y
   rw [crun_ite] at h
   cases hc : dec (x = (aOf x).cs ∧ y = x ∧ aSz (aOf x)) with
   | false => rw [hc] at h; cases h
   | true =>
    rw [hc, cond_true] at h
    obtain ⟨h1, rfl, h2⟩ := dec_iff.1 hc
    generalize aOf y = d at h1 h2
    subst h1
    obtain ⟨a1, a2, a3⟩ := h2
    refine (congrArg crun (sat_t d)).trans ?_
    unfold smC
    rw [dec_iff.2 ⟨rfl, by omega⟩, dec_iff.2 ⟨rfl, by omega⟩, dec_iff.2 ⟨rfl, by omega⟩]
    simp only [beq_self_eq_true, Bool.and_self, cond_true]
    exact h
 · cases h)
theorem sameA2_k : Known Try.prog 15 sameA2_s := (openKnown sOk Try.func15 rfl).weak (by
 intro args H v ups h
 unfold sameA2_s at h
 split at h
 · rename_i x y b
   rw [crun_ite] at h
   cases hc : dec (x = (aOf x).cs ∧ y = (aOf x).q b.length ∧ (aOf x).cl = b ∧ aSz (aOf x)) with
   | false => rw [hc] at h; cases h
   | true =>
    rw [hc, cond_true] at h
    obtain ⟨h1, h3, h4, h2⟩ := dec_iff.1 hc
    generalize aOf x = d at h1 h2 h3 h4
    subst h1; subst h3; subst h4
    obtain ⟨a1, a2, a3⟩ := h2
    refine (congrArg crun (saq_t d d.cl.length d.cl)).trans ?_
    unfold smC smQ
    rw [dec_iff.2 ⟨rfl, by omega⟩, dec_iff.2 ⟨rfl, rfl, by omega⟩, dec_iff.2 ⟨rfl, by omega⟩]
    simp only [beq_self_eq_true, Bool.and_self, cond_true]
    exact h
 · cases h)
abbrev aMsk : List (Option TypeId) := [none, some 33, none, none, none, none, none, none, none, some 35, some 80, none, none, none, none]
def noH : HpL → Bool
 | [] => true
 | _ => false
noncomputable def sameA_s : CSumm := fun args H => bif noH H then coS [aMsk, aMsk] sameA1_s args H else sameA2_s args H
theorem sameA_k : Known Try.prog 15 sameA_s := known_pick (sameA1_k.co _) sameA2_k fun _ H => noH H
end Go.Proofs.Ytkbbiaobohlogaa
/- What is advertised: the law's loop: its trees. -/
namespace Go.Proofs.Ytkbbiaobohlogaa
open Go.Am
set_option maxRecDepth 100000
noncomputable def refl2_s : CSumm := fun args H => match args, H with
 | [.int .u32 c, .bool true, .bool true, .bool true, .agg cs], [] => .ite (dec (cs = (rOf cs).cs ∧ aSz (rOf cs).d ∧ (rOf cs).p ≠ 0))
   (.ite (decide (((rOf cs).d.cl.length : Int) ≥ 16)) (.ret (.tup [zAt.v, .bool false]) []) (.ret (.tup [(refA c (rOf cs)).v, .bool true]) [])) .fail
 | _, _ => .fail
theorem refl2_k : Known Try.prog 14 refl2_s := refl_k.weak (by
 intro args H v ups h
 unfold refl2_s at h
 split at h
 · rename_i c cs
   rw [crun_ite] at h
   cases hc : dec (cs = (rOf cs).cs ∧ aSz (rOf cs).d ∧ (rOf cs).p ≠ 0) with
   | false => rw [hc] at h; cases h
   | true =>
    rw [hc, cond_true] at h
    obtain ⟨h1, h2, h3⟩ := dec_iff.1 hc
    unfold refl_s
    simp only []
    rw [crun_ite, dec_iff.2 ⟨h1, h2⟩, cond_true, crun_ite, show ((rOf cs).p == 0) = false by simpa using h3, cond_false]
    exact h
 · cases h)
noncomputable abbrev κz := tbl [(10, ownr_s), (14, refl_s), (15, sameA_s), (16, accept_s)]
theorem zOk : KOk Try.prog κz := tbl_cons ownr_k (tbl_cons refl_k (tbl_cons sameA_k (tbl_cons accept_k ok0)))
noncomputable abbrev κl := tbl [(10, ownr_s), (14, refl2_s), (15, sameA_s), (16, accept_s)]
theorem lOk : KOk Try.prog κl := tbl_cons ownr_k (tbl_cons refl2_k (tbl_cons sameA_k (tbl_cons accept_k ok0)))
noncomputable def c10 : Code := (loopAt 10 body4).getD .skip
noncomputable abbrev m10 : Code := markC [(25, "i")] c10
noncomputable abbrev T25 : LTab := ltab [("i", e25)]
theorem T25ok : LOk Try.prog T25 := ltab_cons in_valid ltab_nil
def loOk (ks cs : List SV) (f i : Int) : Prop := cs = (rOf cs).cs ∧ ((rOf cs).d.path.length ≤ 100 ∧ (rOf cs).d.cm.length ≤ 100) ∧ ((rOf cs).d.cl.length : Int) ≤ 100 + i ∧ 0 ≤ f ∧ f < 4294967296 ∧ 0 ≤ i ∧ i ≤ ks.length ∧ ks.length ≤ 100 ∧ f = (bif (rOf cs).d.ho then (rOf cs).d.orr else (rOf cs).p) ∧
 ∀ j : Nat, (j : Int) < i → ∃ y ∈ (rOf cs).d.cl, asI y = asI (ks.getD j .junk)
def retq (p : Int) (n : Nat) (m : Int) : Bool := decide (0 < m) && (p == 0 || decide (16 < (n : Int) + m))
def rTrue : CTree := .ret (.tup [.int .i64 1, .bool true]) [(0, none)]
def rOut : CTree := .ret (.tup [.int .i64 2, .junk]) [(0, none)]
noncomputable def lo_s : CSumm := fun args H => match args, H with
 | [.psl 35 ks, .int .u32 f, .ptr 0 0, .int .i64 i], [(0, .cells 48 cs)] => .ite (dec (loOk ks cs f i)) (.ite (retq (rOf cs).p (rOf cs).d.cl.length (ks.length - i)) rTrue rOut) .fail
 | _, _ => .fail
def loM : List SV → HpL → Nat
 | [.psl _ ks, _, _, .int _ i], _ => ((ks.length : Int) - i).toNat
 | _, _ => 0
noncomputable def e10 : LEnt := { ins := [1, 5, 6, 7], outs := [4], keep := [], size := 124, code := c10, s := lo_s }
noncomputable abbrev ιl : Nat → Bool := fun _ => false
noncomputable def saD (x y : List SV) (K : CTree) : CTree := bif dec (x = (aOf x).cs ∧ y = x ∧ aSz (aOf x)) then K else .fail
noncomputable def saQ (x y b : List SV) (K : CTree) : CTree := bif dec (x = (aOf x).cs ∧ y = (aOf x).q b.length ∧ (aOf x).cl = b ∧ aSz (aOf x)) then K else .fail
def Rt.z (r : Rt) : Rt := { r with p := 0 }
def r1 (b : Bool) : CTree := .ret (.tup [.int .i64 1, .bool b]) []
theorem loz_t (N : Nat) (ks : List SV) (f i : Int) (r : Rt) : loopOnce Try.prog κz ιl T25 true 300 e10 { e10 with s := boundT loM lo_s N } m10 [.psl 35 ks, .int .u32 f, .ptr 0 0, .int .i64 i] [(0, .cells 48 r.z.cs)] =
 bif decide (i < ks.length) then bif inB i ks.length then bif dec (r.z.cs = (rOf r.z.cs).cs ∧ aSz (rOf r.z.cs).d) then saD r.d.cs r.d.cs (r1 true) else .fail else .fail
 else .ret (.tup [.int .i64 2, .junk]) [] := by kernel_rfl
def nxt (c i : Int) (r : Rt) : Rt := { r with d := refA c r, p := IntKind.u32.wrap (IntKind.i64.wrap (1000 + i)) }
noncomputable def loN (N : Nat) (ks cs : List SV) (f i : Int) : CTree := bif Nat.blt ((ks.length : Int) - i).toNat N then bif dec (loOk ks cs f i) then bif retq (rOf cs).p (rOf cs).d.cl.length (ks.length - i) then rTrue else rOut else .fail else .fail
noncomputable def loMain (N : Nat) (ks : List SV) (f i c : Int) (r : Rt) : CTree :=
 bif dec (r.cs = (rOf r.cs).cs ∧ aSz (rOf r.cs).d) then bif inB i ks.length then
  bif decide (1 + r.d.cl.length ≤ 9223372036854775807) && decide ((1 + r.d.cl.length) * Try.prog.types[35].bytes ≤ 140737488355328) then
   saQ (refA c r).cs ({ r.d with ho := true, orr := f }.q (1 + r.d.cl.length)) (.int .u32 c :: r.d.cl)
    (bif dec ((nxt c i r).cs = (rOf (nxt c i r).cs).cs ∧ (rOf (nxt c i r).cs).d.cl.length ≤ 1000) then
     bif (bif r.d.ho then r.d.orr else r.p) == f then bif dec (inOk ks (nxt c i r).cs f i 0) then loN N ks (nxt c i r).cs f (w64 (i + 1)) else .fail
     else .ret (.tup [.int .i64 1, .bool false]) [(0, some (.cells 48 (nxt c i r).cs))]
    else .fail)
  else .fail
 else .fail else .fail
theorem lo_t (N : Nat) (ks : List SV) (f i : Int) (r : Rt) : loopOnce Try.prog κl ιl T25 true 300 e10 { e10 with s := boundT loM lo_s N } m10 [.psl 35 ks, .int .u32 f, .ptr 0 0, .int .i64 i] [(0, .cells 48 r.cs)] =
 bif decide (i < ks.length) then bif inB i ks.length then bif dec (r.cs = (rOf r.cs).cs ∧ aSz (rOf r.cs).d ∧ (rOf r.cs).p ≠ 0) then
  bif decide ((r.d.cl.length : Int) ≥ 16) then
   bif r.p == 0 then r1 false else bif decide ((r.d.cl.length : Int) ≥ 16) then saD zAt.cs zAt.cs (r1 true) else r1 false
  else bif r.p == 0 then saD (refA (asI (ks.getD i.toNat .junk)) r).cs r.d.cs (r1 true) else loMain N ks f i (asI (ks.getD i.toNat .junk)) r
 else .fail else .fail
 else .ret (.tup [.int .i64 2, .junk]) [] := by kernel_rfl
end Go.Proofs.Ytkbbiaobohlogaa
