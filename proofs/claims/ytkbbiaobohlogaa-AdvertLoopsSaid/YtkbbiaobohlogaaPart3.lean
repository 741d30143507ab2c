/- What is advertised: the law's loop, known. -/
import Derived.Test.YtkbbiaobohlogaaPart2
import Derived.Test.YtkbbiaobohlogaaPart1
set_option linter.unusedVariables false
set_option linter.unusedSimpArgs false
namespace Go.Proofs.Ytkbbiaobohlogaa
open Go.Am
set_option maxRecDepth 100000
theorem lo_told {cs cs' : List SV} {v : SV} {k : Int} {ups : List (Nat × Option Chunk)} (hu : ups = [] ∨ ups = [(0, none)] ∨ ups = [(0, some (.cells 48 cs'))]) : ChainL Try.prog [(0, .cells 48 cs)] (.tup [.int .i64 k, v]) ups (.tup [.int .i64 k, v]) [(0, none)] := by
 refine .told ⟨k, [v], [v], rfl, rfl, .cons .rfl' .nil, fun x c' hx => ?_⟩
 simp only [updF] at hx
 by_cases h0 : x = 0
 · rw [if_pos h0] at hx; cases hx
 · rw [if_neg h0] at hx
   have := HpL_get_some _ _ _ hx
   simp only [List.mem_cons, Prod.mk.injEq, List.not_mem_nil, or_false] at this
   exact absurd this.1 h0
theorem w32_p {i : Int} (h0 : 0 ≤ i) (h1 : i ≤ 100) : IntKind.u32.wrap (IntKind.i64.wrap (1000 + i)) = 1000 + i := by
 rw [show IntKind.i64.wrap (1000 + i) = 1000 + i from w64_id (by omega) (by omega)]
 simp [IntKind.wrap, IntKind.bits, IntKind.signed]
 omega
theorem retq_next {p p' : Int} {n : Nat} {m : Int} (hp : p ≠ 0) (hp' : p' ≠ 0) (hn : ¬ (n : Int) ≥ 16) (hm : 0 < m) : retq p' (n + 1) (m - 1) = retq p n m := by
 unfold retq
 have e1 : (p == 0) = false := by simpa using hp
 have e2 : (p' == 0) = false := by simpa using hp'
 rw [e1, e2, decide_eq_true hm, Bool.true_and, Bool.false_or, Bool.false_or, Bool.eq_iff_iff]
 simp only [Bool.and_eq_true, decide_eq_true_eq]
 omega
theorem lo_valid : ValidL Try.prog e10 := loop_valid5 (T := T25) (sp := true) (fuel := 300) (c := m10) (μ := loM) mixTry T25ok (show fillC T25 m10 = c10 by kernel_rfl) (by
 intro N args H v' ups' hbt h
 unfold e10 lo_s at h
 simp only [] at h
 split at h
 · rename_i ks f i cs
   rw [crun_ite] at h
   cases hc : dec (loOk ks cs f i) with
   | false => rw [hc] at h; cases h
   | true =>
    rw [hc, cond_true, crun_ite] at h
    obtain ⟨h1, hr⟩ := dec_iff.1 hc
    generalize hq : rOf cs = r at h1 hr h
    subst h1
    obtain ⟨⟨hpa, hcm⟩, hcl, f0, f1, i0, i1, kl, hf, hm⟩ := hr
    have hN : Nat.blt ((ks.length : Int) - i).toNat (N + 1) = true := hbt
    rw [Nat.blt_eq] at hN
    have hsz : aSz r.d := ⟨by omega, by omega, by omega⟩
    by_cases hp : r.p = 0
    · refine ⟨κz, ιl, zOk, ?_⟩
      have ht := loz_t N ks f i r
      have hz : r.z.cs = r.cs := by simp only [Rt.cs, Rt.z, hp]
      rw [hz] at ht
      by_cases hi : i < (ks.length : Int)
      · rw [decide_eq_true hi, cond_true, inB_ok (by omega) (by omega), cond_true, dec_iff.2 ⟨rfl, hsz⟩, cond_true] at ht
        unfold saD at ht
        rw [dec_iff.2 ⟨rfl, rfl, hsz⟩, cond_true] at ht
        have hq1 : retq r.p r.d.cl.length ((ks.length : Int) - i) = true := by
         unfold retq
         rw [hp, decide_eq_true (show 0 < (ks.length : Int) - i by omega)]; rfl
        rw [hq1, cond_true] at h
        cases h
        exact ⟨_, _, congrArg crun ht, lo_told (cs' := []) (.inl rfl)⟩
      · rw [decide_eq_false hi, cond_false] at ht
        have hq1 : retq r.p r.d.cl.length ((ks.length : Int) - i) = false := by
         unfold retq
         rw [decide_eq_false (show ¬ 0 < (ks.length : Int) - i by omega)]; rfl
        rw [hq1, cond_false] at h
        cases h
        exact ⟨_, _, congrArg crun ht, lo_told (cs' := []) (.inl rfl)⟩
    · refine ⟨κl, ιl, lOk, ?_⟩
      have ht := lo_t N ks f i r
      have hpb : (r.p == 0) = false := by simpa using hp
      by_cases hi : i < (ks.length : Int)
      · rw [decide_eq_true hi, cond_true, inB_ok (by omega) (by omega), cond_true, dec_iff.2 ⟨rfl, hsz, hp⟩, cond_true] at ht
        by_cases hl : (r.d.cl.length : Int) ≥ 16
        · rw [decide_eq_true hl, cond_true, hpb, cond_false, cond_true] at ht
          unfold saD at ht
          rw [dec_iff.2 ⟨rfl, rfl, ⟨by decide, by decide, by decide⟩⟩, cond_true] at ht
          have hq1 : retq r.p r.d.cl.length ((ks.length : Int) - i) = true := by
           unfold retq
           rw [decide_eq_true (show 0 < (ks.length : Int) - i by omega), decide_eq_true (show 16 < (r.d.cl.length : Int) + ((ks.length : Int) - i) by omega), Bool.or_true]; rfl
          rw [hq1, cond_true] at h
          cases h
          exact ⟨_, _, congrArg crun ht, lo_told (cs' := []) (.inl rfl)⟩
        · rw [decide_eq_false hl, cond_false, hpb, cond_false] at ht
          generalize hcc : asI (ks.getD i.toNat .junk) = c at ht
          unfold loMain at ht
          have hfb : ((bif r.d.ho then r.d.orr else r.p) == f) = true := by rw [← hf]; simp
          have hw : w64 (i + 1) = i + 1 := w64_id (by omega) (by omega)
          have hp' : (nxt c i r).p = 1000 + i := w32_p i0 (by omega)
          have hmem : ∀ j : Nat, (j : Int) ≤ i → ∃ y ∈ (nxt c i r).d.cl, asI y = asI (ks.getD j .junk) := by
           intro j hj
           by_cases hji : (j : Int) = i
           · refine ⟨.int .u32 c, List.mem_cons_self .., ?_⟩
             rw [← hcc, show i.toNat = j by omega]; rfl
           · obtain ⟨y, hy, hv⟩ := hm j (by omega)
             exact ⟨y, List.mem_cons_of_mem _ hy, hv⟩
          have hin : inOk ks (nxt c i r).cs f i 0 := ⟨rfl, rfl, hf.symm, f0, f1, by omega, by omega, by omega, by omega, by show (SV.int .u32 c :: r.d.cl).length ≤ 1000; simp only [List.length_cons]; omega, hmem⟩
          have hlo : loOk ks (nxt c i r).cs f (i + 1) := ⟨rfl, ⟨hpa, hcm⟩, by show (((SV.int .u32 c :: r.d.cl).length : Nat) : Int) ≤ _; simp only [List.length_cons]; omega, f0, f1, by omega, by omega, kl, hf, fun j hj => hmem j (by omega)⟩
          rw [dec_iff.2 ⟨rfl, hsz⟩, cond_true, inB_ok (by omega) (by omega), cond_true, bytes35, decide_eq_true (show 1 + r.d.cl.length ≤ 9223372036854775807 by have := hsz.2.1; omega), decide_eq_true (show (1 + r.d.cl.length) * 4 ≤ 140737488355328 by have := hsz.2.1; omega), Bool.and_self, cond_true] at ht
          unfold saQ at ht
          rw [dec_iff.2 ⟨rfl, by rw [hf, Nat.add_comm]; rfl, rfl, ⟨by show r.d.path.length ≤ 1000; omega, by show (SV.int .u32 c :: r.d.cl).length ≤ 1000; simp only [List.length_cons]; omega, by show r.d.cm.length ≤ 1000; omega⟩⟩, cond_true,
           dec_iff.2 ⟨rfl, by show (SV.int .u32 c :: r.d.cl).length ≤ 1000; simp only [List.length_cons]; omega⟩, cond_true, hfb, cond_true, dec_iff.2 hin, cond_true, hw] at ht
          unfold loN at ht
          rw [show Nat.blt ((ks.length : Int) - (i + 1)).toNat N = true by rw [Nat.blt_eq]; omega, cond_true, dec_iff.2 hlo, cond_true] at ht
          have hrq : retq (rOf (nxt c i r).cs).p (rOf (nxt c i r).cs).d.cl.length ((ks.length : Int) - (i + 1)) = retq r.p r.d.cl.length ((ks.length : Int) - i) := by
           have := retq_next (p := r.p) (p' := (nxt c i r).p) (n := r.d.cl.length) (m := (ks.length : Int) - i) hp (by rw [hp']; omega) hl (by omega)
           rw [← this, show (ks.length : Int) - (i + 1) = (ks.length : Int) - i - 1 by omega]
           rfl
          rw [hrq] at ht
          refine ⟨v', ups', (congrArg crun ht).trans ?_, .same fun _ => rfl⟩
          rw [crun_cond]
          exact h
      · rw [decide_eq_false hi, cond_false] at ht
        have hq1 : retq r.p r.d.cl.length ((ks.length : Int) - i) = false := by
         unfold retq
         rw [decide_eq_false (show ¬ 0 < (ks.length : Int) - i by omega)]; rfl
        rw [hq1, cond_false] at h
        cases h
        exact ⟨_, _, congrArg crun ht, lo_told (cs' := []) (.inl rfl)⟩
 · cases h)
end Go.Proofs.Ytkbbiaobohlogaa
/- What is advertised: the chapter's example: the loops over maps. -/
namespace Go.Proofs.Ytkbbiaobohlogaa
open Go.Am
set_option maxRecDepth 100000
def nF (n : Int) : List SV := [.int .i64 3, .int .u64 (281474976710656 + n), .int .u8 0, .int .u8 0, .int .u8 0, .int .u8 0, .int .u8 0, .int .u8 0, .int .u8 0, .int .u8 0, .int .u8 0, .int .u8 0, .int .u32 0, .int .u64 0, .int .u32 (10 + n), .bool true, .int .u32 0, .int .i64 0, .int .u32 0, .int .u32 0, .int .u32 0]
def aF : List SV := [.int .i64 0, .nils, .int .u32 1, .bool false, .int .u32 0, .bool true, .int .u32 100, .bool false, .int .u32 0, .nils, .nils, .int .i64 0, .int .u32 0, .int .u32 0, .int .u32 0]
def rF (n : Int) : List SV := nF n ++ aF ++ [.int .u32 0, .bool false]
def mF (a b : Int) : Chunk := .mpn [0, 1] 2 [.agg (nF a), .agg (nF b)] [.agg (rF a), .agg (rF b)]
noncomputable abbrev κ0 : Nat → Option CSumm := openT Try.prog (tbl []) 300 5
noncomputable abbrev ι0 : Nat → Bool := fun g => hasBody Try.prog g
theorem k0Ok : KOk Try.prog κ0 := openT_ok noNumTry mixTry ok0 300 5
noncomputable def body7 : Code := Try.f7.body.getD .skip
noncomputable def c7a : Code := (loopAt 4 body7).getD .skip
noncomputable def c7b : Code := (loopAt 10 body7).getD .skip
def A7a : List SV := [.ptr 0 0, .mp 2, .mp 3]
def H7a : HpL := [(0, .mit 1 2 [] 2), (1, mF 1 2), (2, mF 2 3), (3, .mpn [] 0 [] [])]
def A7b : List SV := [.ptr 0 0, .mp 2]
def H7b : HpL := [(0, .mit 1 2 [] 2), (1, mF 1 2), (2, mF 2 3)]
def u7a : List (Nat × Option Chunk) := [(3, some (.mpn [0] 1 [.agg (nF 1)] [.agg []])), (0, none)]
def u7b : List (Nat × Option Chunk) := [(2, some (.mpn [1] 2 [.agg (nF 3)] [.agg (rF 3)])), (0, none)]
noncomputable def s7a : CSumm := fun args H => .ite (dec (args = A7a ∧ H = H7a)) (.ret (.tup [.int .i64 2, .mp 2, .mp 3]) u7a) .fail
noncomputable def s7b : CSumm := fun args H => .ite (dec (args = A7b ∧ H = H7b)) (.ret (.tup [.int .i64 4, .mp 2]) u7b) .fail
noncomputable def e7a : LEnt := { ins := [25, 7, 8], outs := [7, 8], keep := [4, 5, 6], size := 91, code := c7a, s := s7a }
noncomputable def e7b : LEnt := { ins := [42, 7], outs := [7], keep := [4, 5, 8], size := 91, code := c7b, s := s7b }
theorem n7a_t : loopNOnce Try.prog κ0 ι0 300 4 true e7a A7a H7a = .any (.ret (.tup [.int .i64 2, .mp 2, .mp 3]) u7a) (.ret (.tup [.int .i64 2, .mp 2, .mp 3]) u7a) := by kernel_rfl
theorem n7b_t : loopNOnce Try.prog κ0 ι0 300 4 true e7b A7b H7b = .any (.ret (.tup [.int .i64 4, .mp 2]) u7b) (.ret (.tup [.int .i64 4, .mp 2]) u7b) := by kernel_rfl
theorem v7a : ValidL Try.prog e7a := mapLoop_valid k0Ok mixTry (fun args H r h => by
 have h' : crun (s7a args H) = some r := h
 unfold s7a at h'
 rw [crun_ite] at h'
 cases hc : dec (args = A7a ∧ H = H7a) with
 | false => rw [hc] at h'; cases h'
 | true =>
  rw [hc, cond_true] at h'
  obtain ⟨rfl, rfl⟩ := dec_iff.1 hc
  rw [n7a_t]
  exact denN_same h' h')
theorem v7b : ValidL Try.prog e7b := mapLoop_valid k0Ok mixTry (fun args H r h => by
 have h' : crun (s7b args H) = some r := h
 unfold s7b at h'
 rw [crun_ite] at h'
 cases hc : dec (args = A7b ∧ H = H7b) with
 | false => rw [hc] at h'; cases h'
 | true =>
  rw [hc, cond_true] at h'
  obtain ⟨rfl, rfl⟩ := dec_iff.1 hc
  rw [n7b_t]
  exact denN_same h' h')
noncomputable abbrev T7 : LTab := ltab [("a", e7a), ("b", e7b)]
noncomputable abbrev m7 : Code := markC [(4, "a"), (10, "b")] body7
noncomputable def diff_b : CSumm := bodyCL Try.prog κ0 ι0 T7 true 300 Try.f7 m7
theorem diff_k0 : Known Try.prog 7 diff_b := ⟨⟨Try.f7, Try.func7, noNum_at noNumTry Try.func7, rfl⟩, bodyL_valid k0Ok mixTry (ltab_cons v7a (ltab_cons v7b ltab_nil)) Try.func7 (show Try.f7.body = some (fillC T7 m7) by kernel_rfl)⟩
end Go.Proofs.Ytkbbiaobohlogaa
/- What is advertised: the chapter's example: it holds. -/
namespace Go.Proofs.Ytkbbiaobohlogaa
open Go.Am
set_option maxRecDepth 100000
def D7 : List SV := [.sl 0 38 0 2, .sl 1 38 0 2]
def DH7 : HpL := [(0, .cells 48 (rF 1 ++ rF 2)), (1, .cells 48 (rF 2 ++ rF 3))]
def aP : List SV := [.int .i64 0, .psl 33 [], .int .u32 1, .bool false, .int .u32 0, .bool true, .int .u32 100, .bool false, .int .u32 0, .psl 35 [], .psl 80 [], .int .i64 0, .int .u32 0, .int .u32 0, .int .u32 0]
def rP (n : Int) : List SV := nF n ++ aP ++ [.int .u32 0, .bool false]
def v7 : SV := .tup [.qs 2 21 0 1, .qs 3 38 0 1]
def u7 : List (Nat × Option Chunk) := [(2, some (.seq 39 [.agg (nF 1)])), (3, some (.seq 48 [.agg (rP 3)]))]
theorem diff_t : diff_b D7 DH7 = bif dec (A7a = A7a ∧ H7a = H7a) then bif dec (A7b = A7b ∧ H7b = H7b) then .ret v7 u7 else .fail else .fail := by kernel_rfl
noncomputable def diff_s : CSumm := fun args H => .ite (dec (args = D7 ∧ H = DH7)) (.ret v7 u7) .fail
theorem diff_k : Known Try.prog 7 diff_s := diff_k0.weak (by
 intro args H v ups h
 unfold diff_s at h
 rw [crun_ite] at h
 cases hc : dec (args = D7 ∧ H = DH7) with
 | false => rw [hc] at h; cases h
 | true =>
  rw [hc, cond_true] at h
  obtain ⟨rfl, rfl⟩ := dec_iff.1 hc
  refine (congrArg crun diff_t).trans ?_
  rw [dec_iff.2 ⟨rfl, rfl⟩, dec_iff.2 ⟨rfl, rfl⟩, cond_true, cond_true]
  exact h)
noncomputable abbrev κd := tbl [(7, diff_s)]
theorem dOk : KOk Try.prog κd := tbl_cons diff_k ok0
theorem lives_t : opn κd Try.f5 [] [] = bif dec (D7 = D7 ∧ DH7 = DH7) then .ret (.bool true) [] else .fail := by kernel_rfl
def lives_s : CSumm := fun args H => match args, H with
 | [], [] => .ret (.bool true) []
 | _, _ => .fail
theorem lives_k : Known Try.prog 5 lives_s := (openKnown dOk Try.func5 rfl).weak (by
 intro args H v ups h
 unfold lives_s at h
 split at h
 · refine (congrArg crun lives_t).trans ?_
   rw [dec_iff.2 ⟨rfl, rfl⟩]
   exact h
 · cases h)
end Go.Proofs.Ytkbbiaobohlogaa
/- What is advertised: the law of loops: its tree; it answers true. -/
namespace Go.Proofs.Ytkbbiaobohlogaa
open Go.Am
set_option maxRecDepth 100000
noncomputable abbrev κw := tbl [(5, lives_s), (10, ownr_s)]
theorem wOk : KOk Try.prog κw := tbl_cons lives_k (tbl_cons ownr_k ok0)
noncomputable abbrev T10 : LTab := ltab [("o", e10)]
noncomputable abbrev m4 : Code := markC [(10, "o")] body4
noncomputable def loops_b : CSumm := bodyCL Try.prog (openT Try.prog κw 300 5) (fun g => inl κw g && hasBody Try.prog g) T10 true 300 Try.f4 m4
theorem loops_k : Known Try.prog 4 loops_b := ⟨⟨Try.f4, Try.func4, noNum_at noNumTry Try.func4, rfl⟩, bodyL_valid (openT_ok noNumTry mixTry wOk 300 5) mixTry (ltab_cons lo_valid ltab_nil) Try.func4 (show Try.f4.body = some (fillC T10 m4) by kernel_rfl)⟩
def lgt (r : Rt) : Bool := bif (bif decide ((r.d.path.length : Int) ≤ 40) then decide ((r.d.cl.length : Int) ≤ 20) else false) then decide ((r.d.cm.length : Int) ≤ 80) else false
def rT : CTree := .ret (.bool true) []
noncomputable def lawQ (ks : List SV) (r : Rt) (f : Int) : CTree := bif dec (r.cs = (rOf r.cs).cs ∧ aSz (rOf r.cs).d) then bif dec (loOk ks r.cs f 0) then bif retq (rOf r.cs).p (rOf r.cs).d.cl.length ((ks.length : Int) - 0) then rT else rT else .fail else .fail
theorem loops_t (r : Rt) (ks : List SV) : loops_b [.agg r.cs, .psl 35 ks] [] =
 bif (bif !lgt r then true else decide ((ks.length : Int) > 40)) then rT else bif !r.d.ho then lawQ ks r r.p else lawQ ks r r.d.orr := by kernel_rfl
end Go.Proofs.Ytkbbiaobohlogaa
