/- Checks of attributes and routes together. -/
import Derived.Test.YtdgnhaacdpmclaaPart3
import Derived.Test.YtdgnhaacdpmclaaMachine4
namespace Go.Proofs.Ytdgnhaacdpmclaa
open Go.Am
set_option maxRecDepth 100000
noncomputable abbrev check_b : CSumm := bodyCL Try.prog (openT Try.prog κi 300 5) (fun g => inl κi g && hasBody Try.prog g) T16 true 300 Try.f16 m16
def invC (l : List SV) : Bool := decide ((0 : Int) ≤ 0) && decide ((0 : Int) ≤ l.length) && decide ((l.length : Int) = l.length) && decide ((l.length : Int) ≤ 1000)
theorem invC_t {l : List SV} (h : l.length ≤ 1000) : invC l = true := by
  unfold invC; rw [decide_eq_true (by omega), decide_eq_true (by omega), decide_eq_true rfl, decide_eq_true (by omega)]; rfl
theorem check_t (a : At) (r u : List SV) : check_b [a.v, .psl 47 r, .psl 47 u] [] =
  bif achk a != 0 then .ret (.int .i64 (achk a)) [] else bif (bif (r.length : Int) == 0 then !azero a else false) then .ret (.int .i64 3) [] else
  bif invC r then bif fst (lft r.length 0) r 0 != 0 then .ret (.int .i64 (fst (lft r.length 0) r 0)) [] else
  bif invC u then bif fst (lft u.length 0) u 0 != 0 then .ret (.int .i64 (fst (lft u.length 0) u 0)) [] else .ret (.int .i64 0) [] else .fail else .fail := by kernel_rfl
/-- Why attributes and routes cannot be encoded. -/
def chkAll (a : At) (r u : List SV) : Int := bif achk a != 0 then achk a else bif (bif (r.length : Int) == 0 then !azero a else false) then 3 else bif fsts r != 0 then fsts r else fsts u
def checks_s : CSumm := fun args H => match args, H with
  | [x, .psl 47 r, .psl 47 u], [] => match atOf x with
    | some a => .ite (decide (r.length ≤ 1000 ∧ u.length ≤ 1000)) (.ret (.int .i64 (chkAll a r u)) []) .fail
    | none => .fail
  | _, _ => .fail
theorem checks_k : Known Try.prog 16 checks_s := (show Known Try.prog 16 check_b from ⟨⟨Try.f16, Try.func16, noNum_at noNumTry Try.func16, rfl⟩, bodyL_valid (openT_ok noNumTry mixTry oki 300 5) mixTry (ltab_cons check_valid ltab_nil) Try.func16 fill16⟩).weak (by
  intro args H v ups h
  unfold checks_s at h
  split at h
  · rename_i x r u
    split at h
    · rename_i a ha
      rw [crun_ite, cond_eq_ite] at h
      split at h
      · rename_i hc
        obtain ⟨h1, h2⟩ := of_decide_eq_true hc
        have e1 : lft (r.length : Int) 0 = r.length := by unfold lft; omega
        have e2 : lft (u.length : Int) 0 = u.length := by unfold lft; omega
        rw [atOf_v ha]
        cases h
        rw [check_t, invC_t h1, invC_t h2, e1, e2]
        unfold chkAll fsts
        cases hk : achk a != 0 with
        | true => rfl
        | false =>
        cases (bif (r.length : Int) == 0 then !azero a else false) with
        | true => rfl
        | false =>
        cases hr : fst r.length r 0 != 0 with
        | true => rfl
        | false =>
        cases hu : fst u.length u 0 != 0 with
        | true => rfl
        | false =>
          have : fst u.length u 0 = 0 := by simpa using hu
          rw [this]; rfl
      · cases h
    · cases h
  · cases h)
end Go.Proofs.Ytdgnhaacdpmclaa
/- Checks by the reference. -/
namespace Go.Proofs.Ytdgnhaacdpmclaa
open Go.Am
set_option maxRecDepth 100000
def rtB (r u : List SV) (i : Int) : Nl := bif decide (i < (r.length : Int)) then rt r i else rt u (IntKind.i64.wrap (i - r.length))
def fst2 : Nat → List SV → List SV → Int → Int
  | 0, _, _, _ => 0
  | k + 1, r, u, i => bif chk (rtB r u i) != 0 then chk (rtB r u i) else fst2 k r u (i + 1)
def invB (r u : List SV) (i : Int) : Bool := decide (0 ≤ i) && decide (i ≤ (r.length : Int) + u.length) && decide (r.length ≤ 1000) && decide (u.length ≤ 1000)
def lfB (r u : List SV) (i : Int) : Nat := ((r.length : Int) + u.length - i).toNat
def chBs : CSumm
  | [.psl 47 r, .psl 47 u, .int .i64 i, .nils, .int .i64 e], [] => .ite (invB r u i) (.ite (fst2 (lfB r u i) r u i != 0) (.ret (.tup [.int .i64 1, .psl 47 r, .psl 47 u, .nils, .int .i64 (fst2 (lfB r u i) r u i)]) []) (.ret (.tup [.int .i64 2, .psl 47 r, .psl 47 u, .nils, .int .i64 e]) [])) .fail
  | _, _ => .fail
def chBM : List SV → HpL → Nat
  | [.psl _ r, .psl _ u, .int _ i, _, _], _ => lfB r u i
  | _, _ => 0
noncomputable def body9 : Code := Try.f9.body.getD .skip
noncomputable def c9 : Code := (loopAt 7 body9).getD .skip
noncomputable def e9 : LEnt := { ins := [1, 2, 9, 6, 7], outs := [1, 2, 6, 7], keep := [3], size := 89, code := c9, s := chBs }
noncomputable abbrev κj := tbl [(25, check_s)]
theorem okj : KOk Try.prog κj := tbl_cons rcheck_k ok0
noncomputable abbrev κjo := openT Try.prog κj 300 5
noncomputable abbrev ιj : Nat → Bool := fun g => inl κj g && hasBody Try.prog g
/-- What comes behind a route's check. -/
def nextB (N : Nat) (r u : List SV) (i e : Int) (n : Nl) : CTree :=
  bif chk n != 0 then .ret (.tup [.int .i64 1, .psl 47 r, .psl 47 u, .nils, .int .i64 (chk n)]) [] else
  bif Nat.blt (lfB r u (IntKind.i64.wrap (i + 1))) N then bif invB r u (IntKind.i64.wrap (i + 1)) then bif fst2 (lfB r u (IntKind.i64.wrap (i + 1))) r u (IntKind.i64.wrap (i + 1)) != 0 then .ret (.tup [.int .i64 1, .psl 47 r, .psl 47 u, .nils, .int .i64 (fst2 (lfB r u (IntKind.i64.wrap (i + 1))) r u (IntKind.i64.wrap (i + 1)))]) [] else .ret (.tup [.int .i64 2, .psl 47 r, .psl 47 u, .nils, .int .i64 e]) [] else .fail else .fail
theorem round9 (N : Nat) (r u : List SV) (i e : Int) : loopOnce Try.prog κjo ιj (ltab []) true 300 e9 { e9 with s := boundT chBM chBs N } c9 [.psl 47 r, .psl 47 u, .int .i64 i, .nils, .int .i64 e] [] =
  bif decide (i < IntKind.i64.wrap ((r.length : Int) + u.length)) then bif decide (i < (r.length : Int)) then bif inB i r.length then nextB N r u i e (rt r i) else .fail
    else bif inB (IntKind.i64.wrap (i - r.length)) u.length then nextB N r u i e (rt u (IntKind.i64.wrap (i - r.length))) else .fail
  else .ret (.tup [.int .i64 2, .psl 47 r, .psl 47 u, .nils, .int .i64 e]) [] := by kernel_rfl
theorem invB_iff {r u : List SV} {i : Int} : invB r u i = true ↔ 0 ≤ i ∧ i ≤ (r.length : Int) + u.length ∧ r.length ≤ 1000 ∧ u.length ≤ 1000 := by
  simp only [invB, Bool.and_eq_true, decide_eq_true_eq, and_assoc]
theorem nextB_ok {N : Nat} {r u : List SV} {i e : Int} {n : Nl} (hn : rtB r u i = n) (h : invB r u i = true) (hlt : i < (r.length : Int) + u.length) (hb : lfB r u i < N + 1) :
    nextB N r u i e n = bif fst2 (lfB r u i) r u i != 0 then .ret (.tup [.int .i64 1, .psl 47 r, .psl 47 u, .nils, .int .i64 (fst2 (lfB r u i) r u i)]) [] else .ret (.tup [.int .i64 2, .psl 47 r, .psl 47 u, .nils, .int .i64 e]) [] := by
  obtain ⟨h0, h1, h2, h3⟩ := invB_iff.1 h
  have hw : IntKind.i64.wrap (i + 1) = i + 1 := w64_id (by omega) (by omega)
  have hs : lfB r u i = lfB r u (i + 1) + 1 := by unfold lfB; omega
  have hbb : Nat.blt (lfB r u (i + 1)) N = true := by rw [Nat.blt_eq]; omega
  have hi : invB r u (i + 1) = true := invB_iff.2 ⟨by omega, by omega, h2, h3⟩
  unfold nextB
  rw [hw, hbb, hi, hs]
  simp only [fst2, hn, cond_true]
  cases hk : (chk n != 0) with
  | true => simp only [cond_true, hk]
  | false =>
    simp only [cond_false]
theorem checkB_valid : ValidL Try.prog e9 := loop_valid (κ := κjo) (ι := ιj) (T := ltab []) (sp := true) (fuel := 300) (c := c9) (μ := chBM) (openT_ok noNumTry mixTry okj 300 5) mixTry ltab_nil (show fillC (ltab []) c9 = c9 by kernel_rfl) (by
  intro N args H r0 hb hr
  have hr' : crun (chBs args H) = some r0 := hr
  unfold chBs at hr'
  split at hr'
  · rename_i r u i e
    rw [crun_ite, crun_ite] at hr'
    cases hc : invB r u i with
    | false => rw [hc] at hr'; cases hr'
    | true =>
      rw [hc, cond_true] at hr'
      obtain ⟨h0, h1, h2, h3⟩ := invB_iff.1 hc
      have hb' : lfB r u i < N + 1 := by
        have : Nat.blt (lfB r u i) (N + 1) = true := hb
        rwa [Nat.blt_eq] at this
      rw [← hr']
      refine (congrArg crun (round9 N r u i e)).trans ?_
      have hw : IntKind.i64.wrap ((r.length : Int) + u.length) = (r.length : Int) + u.length := w64_id (by omega) (by omega)
      rw [hw]
      by_cases hlt : i < (r.length : Int) + u.length
      · rw [decide_eq_true hlt, cond_true]
        by_cases hl : i < (r.length : Int)
        · have hin : inB i r.length = true := by unfold inB; simp; omega
          rw [decide_eq_true hl, hin, cond_true, cond_true, nextB_ok (by unfold rtB; rw [decide_eq_true hl]; rfl) hc hlt hb', crun_cond]
        · have hw2 : IntKind.i64.wrap (i - r.length) = i - r.length := w64_id (by omega) (by omega)
          have hin : inB (IntKind.i64.wrap (i - r.length)) u.length = true := by rw [hw2]; unfold inB; simp; omega
          rw [decide_eq_false hl, hin, cond_false, cond_true, nextB_ok (by unfold rtB; rw [decide_eq_false hl]; rfl) hc hlt hb', crun_cond]
      · rw [decide_eq_false hlt, show lfB r u i = 0 by unfold lfB; omega]; rfl
  · cases hr')
theorem fst2_hi (r u : List SV) : ∀ (k : Nat) (i : Int), (r.length : Int) ≤ i → i + k ≤ 1000000 → fst2 k r u i = fst k u (i - r.length)
  | 0, _, _, _ => rfl
  | k + 1, i, h, hk => by
    have hw : IntKind.i64.wrap (i - r.length) = i - r.length := w64_id (by omega) (by omega)
    have e : rtB r u i = rt u (i - r.length) := by unfold rtB; rw [decide_eq_false (by omega), hw]; rfl
    simp only [fst2, fst, e]
    rw [fst2_hi r u k (i + 1) (by omega) (by omega), show i + 1 - (r.length : Int) = i - r.length + 1 by omega]
theorem fst2_lo (r u : List SV) (h1 : r.length ≤ 1000) (h2 : u.length ≤ 1000) : ∀ (k : Nat) (i : Int), 0 ≤ i → i + k = r.length → fst2 (k + u.length) r u i = bif fst k r i != 0 then fst k r i else fst u.length u 0
  | 0, i, h0, h => by
    rw [Nat.zero_add, fst2_hi r u _ i (by omega) (by omega), show i - (r.length : Int) = 0 by omega]
    rfl
  | k + 1, i, h0, h => by
    have e : rtB r u i = rt r i := by unfold rtB; rw [decide_eq_true (by omega)]; rfl
    rw [show k + 1 + u.length = (k + u.length) + 1 by omega]
    simp only [fst2, fst, e]
    rw [fst2_lo r u h1 h2 k (i + 1) (by omega) (by omega)]
    cases hk : (chk (rt r i) != 0) with
    | true => simp only [cond_true, hk]
    | false => simp only [cond_false]
theorem fst2_eq {r u : List SV} (h1 : r.length ≤ 1000) (h2 : u.length ≤ 1000) : fst2 (lfB r u 0) r u 0 = bif fsts r != 0 then fsts r else fsts u := by
  rw [show lfB r u 0 = r.length + u.length by unfold lfB; omega]
  exact fst2_lo r u h1 h2 r.length 0 (by omega) (by omega)
noncomputable abbrev T9 : LTab := ltab [("s", e9)]
noncomputable def m9 : Code := markC [(7, "s")] body9
theorem fill9 : Try.f9.body = some (fillC T9 m9) := by kernel_rfl
end Go.Proofs.Ytdgnhaacdpmclaa
/- Attributes by the reference. -/
namespace Go.Proofs.Ytdgnhaacdpmclaa
open Go.Am
set_option maxRecDepth 100000
noncomputable abbrev κk := tbl [(53, rput_s)]
theorem okk : KOk Try.prog κk := tbl_cons p5_k ok0
def orF (f : Int) : Int := IntKind.u8.wrap (((BitVec.ofInt IntKind.u8.bits f) ||| (BitVec.ofInt IntKind.u8.bits 16)).toNat : Int)
def hdL (f c : Int) : List SV := [.int .u8 (orF f), .int .u8 c]
def hdS (f c k : Int) : List SV := [.int .u8 f, .int .u8 c, .int .u8 k]
def bothK (k : Nat) (xs : List SV) (g : List SV → CTree) : CTree :=
  bif decide (k = xs.length) then g xs else bif decide (0 + k ≤ xs.length) then g ((xs.drop 0).take k) else .fail
def finA (nw : Nat) (ups : List (Nat × Option Chunk)) (k : Nat) (xs : List SV) (m : Nat) (es : List SV) : CTree :=
  bif decide (m = es.length) then bothK k xs (fun ys => bif lenOk (es.length + ys.length) then .ret (.qs nw 1 0 (es.length + ys.length)) (ups ++ [(nw, some (.seq 5 (es ++ ys)))]) else .fail) else .fail
theorem attr_tqq (f c : Int) (m k : Nat) (es xs : List SV) : opn κk Try.f27 [.qs 0 1 0 m, .int .u8 f, .int .u8 c, .qs 1 1 0 k] [(0, .seq 5 es), (1, .seq 5 xs)] =
  bif decide ((k : Int) > 255) then bif decide (m = es.length) then bif lenOk (es.length + 2) then
    bif decide (es.length + 2 = (es ++ hdL f c).length ∧ (es ++ hdL f c).length ≤ 100000) then
     finA 2 [(0, none)] k xs ((es ++ hdL f c).length + 2) ((es ++ hdL f c) ++ be (IntKind.u64.wrap k) 2) else .fail else .fail else .fail
  else bif decide (m = es.length) then bif lenOk (es.length + 3) then finA 2 [(0, none)] k xs (es.length + 3) (es ++ [.int .u8 f, .int .u8 c, .int .u8 (IntKind.u8.wrap k)]) else .fail else .fail := by kernel_rfl
theorem attr_tqn (f c : Int) (m : Nat) (es : List SV) : opn κk Try.f27 [.qs 0 1 0 m, .int .u8 f, .int .u8 c, .nils] [(0, .seq 5 es)] =
  bif decide (m = es.length) then bif lenOk (es.length + 3) then bif decide (es.length + 3 = (es ++ hdS f c 0).length) then bif lenOk ((es ++ hdS f c 0).length + 0) then .ret (.qs 1 1 0 ((es ++ hdS f c 0).length + 0)) [(0, none), (1, some (.seq 5 ((es ++ hdS f c 0) ++ [])))] else .fail else .fail else .fail else .fail := by kernel_rfl
theorem attr_tnq (f c : Int) (k : Nat) (xs : List SV) : opn κk Try.f27 [.nils, .int .u8 f, .int .u8 c, .qs 0 1 0 k] [(0, .seq 5 xs)] =
  bif decide ((k : Int) > 255) then finA 1 [] k xs 4 ([.int .u8 (orF f), .int .u8 c] ++ be (IntKind.u64.wrap k) 2) else finA 1 [] k xs 3 [.int .u8 f, .int .u8 c, .int .u8 (IntKind.u8.wrap k)] := by kernel_rfl
theorem attr_tn1 (f c a : Int) : opn κk Try.f27 [.nils, .int .u8 f, .int .u8 c, .sl 0 1 0 1] [(0, .cells 5 [.int .u8 a])] = .ret (.qs 1 1 0 4) [(1, some (.seq 5 [.int .u8 f, .int .u8 c, .int .u8 1, .int .u8 a]))] := by kernel_rfl
theorem finA_ok {nw : Nat} {ups : List (Nat × Option Chunk)} {k : Nat} {xs : List SV} {m : Nat} {es : List SV} (hk : k = xs.length) (hm : m = es.length) (h : es.length + xs.length ≤ 1000000) :
    finA nw ups k xs m es = .ret (.qs nw 1 0 (es.length + xs.length)) (ups ++ [(nw, some (.seq 5 (es ++ xs)))]) := by
  subst hk hm
  unfold finA bothK
  rw [decide_eq_true rfl, decide_eq_true rfl, cond_true, cond_true]
  show (bif lenOk (es.length + xs.length) then _ else _) = _
  rw [lenOk_t h]; rfl
/-- An attribute's bytes. -/
def attL (f c : Int) (v : List SV) : List SV := bif decide ((v.length : Int) > 255) then hdL f c ++ be (IntKind.u64.wrap v.length) 2 ++ v else hdS f c (IntKind.u8.wrap v.length) ++ v
theorem attL_len (f c : Int) (v : List SV) : (attL f c v).length ≤ v.length + 4 := by
  unfold attL
  cases decide ((v.length : Int) > 255) <;> simp [hdL, hdS, be_len] <;> omega
def attr_s : CSumm := fun args H => match args, H with
  | [.qs 0 1 0 m, .int .u8 f, .int .u8 c, .qs 1 1 0 k], [(0, .seq 5 es), (1, .seq 5 xs)] => .ite (decide (m = es.length ∧ k = xs.length ∧ es.length + xs.length ≤ 90000)) (.ret (.qs 2 1 0 (es.length + (attL f c xs).length)) [(0, none), (2, some (.seq 5 (es ++ attL f c xs)))]) .fail
  | [.qs 0 1 0 m, .int .u8 f, .int .u8 c, .nils], [(0, .seq 5 es)] => .ite (decide (m = es.length ∧ es.length ≤ 90000)) (.ret (.qs 1 1 0 (es.length + (attL f c []).length)) [(0, none), (1, some (.seq 5 (es ++ attL f c [])))]) .fail
  | [.nils, .int .u8 f, .int .u8 c, .qs 0 1 0 k], [(0, .seq 5 xs)] => .ite (decide (k = xs.length ∧ xs.length ≤ 90000)) (.ret (.qs 1 1 0 (attL f c xs).length) [(1, some (.seq 5 (attL f c xs)))]) .fail
  | [.nils, .int .u8 f, .int .u8 c, .sl 0 1 0 1], [(0, .cells 5 [.int .u8 a])] => .ret (.qs 1 1 0 4) [(1, some (.seq 5 (attL f c [.int .u8 a])))]
  | _, _ => .fail
theorem attr_ok {args : List SV} {H : HpL} {v : SV} {ups : List (Nat × Option Chunk)} (h : crun (attr_s args H) = some (v, ups)) : crun (opn κk Try.f27 args H) = some (v, ups) := by
  unfold attr_s at h
  split at h
  · rename_i m f c k es xs
    rw [crun_ite, cond_eq_ite] at h
    split at h
    · rename_i hc
      obtain ⟨rfl, rfl, h1⟩ := of_decide_eq_true hc
      rw [attr_tqq, decide_eq_true rfl, lenOk_t (by omega), lenOk_t (by omega), ← h]
      unfold attL
      cases hx : decide ((xs.length : Int) > 255) with
      | true =>
        rw [decide_eq_true (by simp [hdL]; omega)]
        simp only [cond_true]
        rw [finA_ok rfl (by simp [be_len]; omega) (by simp [hdL, be_len]; omega)]
        simp [Nat.add_assoc]
      | false =>
        simp only [cond_true, cond_false]
        rw [show es.length + 3 = (es ++ hdS f c (IntKind.u8.wrap xs.length)).length by simp [hdS]]
        refine (congrArg crun (finA_ok rfl rfl (by simp [hdS]; omega))).trans ?_
        simp [Nat.add_assoc]
    · cases h
  · rename_i m f c es
    rw [crun_ite, cond_eq_ite] at h
    split at h
    · rename_i hc
      obtain ⟨rfl, h1⟩ := of_decide_eq_true hc
      rw [attr_tqn, decide_eq_true rfl, lenOk_t (by omega), decide_eq_true (by simp [hdS]), lenOk_t (by simp [hdS]; omega), ← h]
      simp [attL, w8_eq, Nat.add_assoc]
    · cases h
  · rename_i f c k xs
    rw [crun_ite, cond_eq_ite] at h
    split at h
    · rename_i hc
      obtain ⟨rfl, h1⟩ := of_decide_eq_true hc
      rw [attr_tnq, ← h]
      unfold attL
      cases hx : decide ((xs.length : Int) > 255) with
      | true =>
        simp only [cond_true]
        refine (congrArg crun (finA_ok rfl (by simp [be_len]) (by simp [be_len]; omega))).trans ?_
        simp [hdL, be_len, Nat.add_assoc]
        rw [show 4 + xs.length = 2 + (xs.length + 2) by omega]
      | false =>
        simp only [cond_false]
        refine (congrArg crun (finA_ok (es := [.int .u8 f, .int .u8 c, .int .u8 (IntKind.u8.wrap xs.length)]) rfl rfl (by simp only [List.length_cons, List.length_nil]; omega))).trans ?_
        simp [hdS]
        rw [show 3 + xs.length = xs.length + 1 + 1 + 1 by omega]
    · cases h
  · rename_i f c a
    rw [attr_tn1, ← h]; rfl
  · cases h
end Go.Proofs.Ytdgnhaacdpmclaa
/- Attributes by the reference: a value that is fresh. -/
namespace Go.Proofs.Ytdgnhaacdpmclaa
open Go.Am
set_option maxRecDepth 100000
def l3 (x y z : Int) : List SV := [.int .u8 x, .int .u8 y, .int .u8 z]
theorem attr_tq3 (f c : Int) (m : Nat) (es : List SV) (x y z : Int) : opn κk Try.f27 [.qs 0 1 0 m, .int .u8 f, .int .u8 c, .sl 1 1 0 3] [(0, .seq 5 es), (1, .cells 5 [.int .u8 x, .int .u8 y, .int .u8 z])] =
  bif decide (m = es.length) then bif lenOk (es.length + 3) then bif decide (es.length + 3 = (es ++ hdS f c 3).length) then bif lenOk ((es ++ hdS f c 3).length + 3) then .ret (.qs 2 1 0 ((es ++ hdS f c 3).length + 3)) [(0, none), (2, some (.seq 5 ((es ++ hdS f c 3) ++ l3 x y z)))] else .fail else .fail else .fail else .fail := by kernel_rfl
theorem attr_tn3 (f c x y z : Int) : opn κk Try.f27 [.nils, .int .u8 f, .int .u8 c, .sl 0 1 0 3] [(0, .cells 5 [.int .u8 x, .int .u8 y, .int .u8 z])] = .ret (.qs 1 1 0 6) [(1, some (.seq 5 (hdS f c 3 ++ l3 x y z)))] := by kernel_rfl
def attr2_s : CSumm := fun args H => match args, H with
  | [.qs 0 1 0 m, .int .u8 f, .int .u8 c, .sl 1 1 0 3], [(0, .seq 5 es), (1, .cells 5 [.int .u8 x, .int .u8 y, .int .u8 z])] => .ite (decide (m = es.length ∧ es.length ≤ 90000)) (.ret (.qs 2 1 0 (es.length + (attL f c (l3 x y z)).length)) [(0, none), (2, some (.seq 5 (es ++ attL f c (l3 x y z))))]) .fail
  | [.nils, .int .u8 f, .int .u8 c, .sl 0 1 0 3], [(0, .cells 5 [.int .u8 x, .int .u8 y, .int .u8 z])] => .ret (.qs 1 1 0 6) [(1, some (.seq 5 (attL f c (l3 x y z))))]
  | args, H => attr_s args H
theorem attr2_k : Known Try.prog 27 attr2_s := (openKnown okk Try.func27 rfl).weak (by
  intro args H v ups h
  unfold attr2_s at h
  split at h
  · rename_i m f c es x y z
    rw [crun_ite, cond_eq_ite] at h
    split at h
    · rename_i hc
      obtain ⟨rfl, h1⟩ := of_decide_eq_true hc
      rw [attr_tq3, decide_eq_true rfl, lenOk_t (by omega), decide_eq_true (by simp [hdS]), lenOk_t (by simp [hdS]; omega), ← h]
      simp [attL, l3, hdS, w8_eq, Nat.add_assoc]
    · cases h
  · rename_i f c x y z
    rw [attr_tn3, ← h]; rfl
  · exact attr_ok h)
end Go.Proofs.Ytdgnhaacdpmclaa
/- Lists of numbers by the reference. -/
namespace Go.Proofs.Ytdgnhaacdpmclaa
open Go.Am
set_option maxRecDepth 100000
def wd (l : List SV) (i : Int) : List SV := be (IntKind.u64.wrap (asI (l.getD i.toNat .junk))) 4
/-- Numbers of four bytes. -/
def wds : Nat → List SV → Int → List SV
  | 0, _, _ => []
  | k + 1, l, i => wd l i ++ wds k l (i + 1)
def invW (l : List SV) (i : Int) (m : Nat) : Bool := decide (0 ≤ i) && decide (i ≤ l.length) && decide (l.length ≤ 1000) && decide (m ≤ 60000)
def pathLs : CSumm
  | [.ptr 0 0, .int .i64 i, .qs 1 1 0 m], [(0, .cells 30 [.int .i64 ori, .psl 23 path, .int .u32 nx, .bool hm, .int .u32 med, .bool hp, .int .u32 prf, .bool ho, .int .u32 orr, .psl 24 cl, .psl 72 cm, .int .i64 tk, .int .u32 tl, .int .u32 tr, .int .u32 tg]), (1, .seq 5 es)] =>
    .ite (decide (m = es.length) && invW path i (m + 4 * lft path.length i)) (.ite (decide (i < path.length)) (.ret (.tup [.int .i64 2, .ptr 0 0, .qs 2 1 0 (es.length + (wds (lft path.length i) path i).length)]) [(1, none), (2, some (.seq 5 (es ++ wds (lft path.length i) path i)))]) (.ret (.tup [.int .i64 2, .ptr 0 0, .qs 1 1 0 m]) [])) .fail
  | _, _ => .fail
def pathM : List SV → HpL → Nat
  | [_, .int _ i, _], (0, .cells _ (_ :: .psl _ path :: _)) :: _ => lft path.length i
  | _, _ => 0
noncomputable def body26 : Code := Try.f26.body.getD .skip
noncomputable def c26p : Code := (loopAt 6 body26).getD .skip
noncomputable def e26p : LEnt := { ins := [2, 7, 6], outs := [2, 6], keep := [5, 1], size := 102, code := c26p, s := pathLs }
noncomputable abbrev κko := openT Try.prog κk 300 5
noncomputable abbrev ιk : Nat → Bool := fun g => inl κk g && hasBody Try.prog g
def nextW (N : Nat) (path : List SV) (i : Int) (m : Nat) (ys : List SV) : CTree :=
  bif Nat.blt (lft path.length i) N then bif decide (m = ys.length) && invW path i (m + 4 * lft path.length i) then bif decide (i < path.length) then .ret (.tup [.int .i64 2, .ptr 0 0, .qs 2 1 0 (ys.length + (wds (lft path.length i) path i).length)]) [(1, none), (2, some (.seq 5 (ys ++ wds (lft path.length i) path i)))]
   else .ret (.tup [.int .i64 2, .ptr 0 0, .qs 2 1 0 m]) [(1, none), (2, some (.seq 5 ys))] else .fail else .fail
theorem round26p (N : Nat) (a : At) (i : Int) (m : Nat) (es : List SV) : loopOnce Try.prog κko ιk (ltab []) true 300 e26p { e26p with s := boundT pathM pathLs N } c26p [.ptr 0 0, .int .i64 i, .qs 1 1 0 m] [(0, .cells 30 [.int .i64 a.ori, .psl 23 a.path, .int .u32 a.nx, .bool a.hm, .int .u32 a.med, .bool a.hp, .int .u32 a.prf, .bool a.ho, .int .u32 a.orr, .psl 24 a.cl, .psl 72 a.cm, .int .i64 a.tk, .int .u32 a.tl, .int .u32 a.tr, .int .u32 a.tg]), (1, .seq 5 es)] =
  bif decide (i < a.path.length) then bif inB i a.path.length then bif decide (m = es.length ∧ es.length ≤ 100000) then nextW N a.path (IntKind.i64.wrap (i + 1)) (es.length + 4) (es ++ wd a.path i) else .fail else .fail else .ret (.tup [.int .i64 2, .ptr 0 0, .qs 1 1 0 m]) [] := by kernel_rfl
theorem invW_iff {l : List SV} {i : Int} {m : Nat} : invW l i m = true ↔ 0 ≤ i ∧ i ≤ l.length ∧ l.length ≤ 1000 ∧ m ≤ 60000 := by
  simp only [invW, Bool.and_eq_true, decide_eq_true_eq, and_assoc]
theorem wd_len (l : List SV) (i : Int) : (wd l i).length = 4 := be_len _ 4
theorem wds_len (l : List SV) : ∀ (k : Nat) (i : Int), (wds k l i).length = 4 * k
  | 0, _ => rfl
  | k + 1, i => by rw [wds, List.length_append, wd_len, wds_len l k]; omega
theorem nextW_ok {N : Nat} {l : List SV} {i : Int} {ys : List SV} (h1 : lft l.length i < N) (h2 : invW l i (ys.length + 4 * lft l.length i) = true) :
    nextW N l i ys.length ys = .ret (.tup [.int .i64 2, .ptr 0 0, .qs 2 1 0 (ys.length + (wds (lft l.length i) l i).length)]) [(1, none), (2, some (.seq 5 (ys ++ wds (lft l.length i) l i)))] := by
  have hb : Nat.blt (lft l.length i) N = true := by rw [Nat.blt_eq]; exact h1
  unfold nextW
  rw [hb, h2, decide_eq_true rfl]
  by_cases hlt : i < l.length
  · rw [decide_eq_true hlt]; rfl
  · rw [decide_eq_false hlt, lft_zero hlt]
    simp [wds]
theorem path_valid : ValidL Try.prog e26p := loop_valid (κ := κko) (ι := ιk) (T := ltab []) (sp := true) (fuel := 300) (c := c26p) (μ := pathM) (openT_ok noNumTry mixTry okk 300 5) mixTry ltab_nil (show fillC (ltab []) c26p = c26p by kernel_rfl) (by
  intro N args H r hb hr
  have hr' : crun (pathLs args H) = some r := hr
  unfold pathLs at hr'
  split at hr'
  · rename_i i m ori path nx hm med hp prf ho orr cl cm tk tl tr tg es
    rw [crun_ite, crun_ite] at hr'
    cases hc : (decide (m = es.length) && invW path i (m + 4 * lft path.length i)) with
    | false => rw [hc] at hr'; cases hr'
    | true =>
      rw [hc, cond_true] at hr'
      rw [Bool.and_eq_true, decide_eq_true_eq] at hc
      obtain ⟨rfl, hi⟩ := hc
      obtain ⟨h0, h1, h2, h3⟩ := invW_iff.1 hi
      have hb' : lft path.length i < N + 1 := by
        have : Nat.blt (lft path.length i) (N + 1) = true := hb
        rwa [Nat.blt_eq] at this
      rw [← hr']
      refine (congrArg crun (round26p N ⟨ori, path, nx, hm, med, hp, prf, ho, orr, cl, cm, tk, tl, tr, tg⟩ i es.length es)).trans ?_
      by_cases hlt : i < path.length
      · have hs := lft_succ hlt
        have hw : IntKind.i64.wrap (i + 1) = i + 1 := w64_id (by omega) (by omega)
        have hin : inB i path.length = true := by unfold inB; simp; omega
        have hi2 : invW path (i + 1) ((es ++ wd path i).length + 4 * lft path.length (i + 1)) = true := invW_iff.2 ⟨by omega, by omega, h2, by rw [List.length_append, wd_len]; omega⟩
        show crun (bif decide (i < (path.length : Int)) then bif inB i path.length then bif decide (es.length = es.length ∧ es.length ≤ 100000) then nextW N path (IntKind.i64.wrap (i + 1)) (es.length + 4) (es ++ wd path i) else .fail else .fail else _) = _
        rw [hin, hw, decide_eq_true hlt, decide_eq_true (show es.length = es.length ∧ es.length ≤ 100000 from ⟨rfl, by omega⟩), cond_true, cond_true, cond_true, show es.length + 4 = (es ++ wd path i).length by rw [List.length_append, wd_len], nextW_ok (by omega) hi2, hs]
        simp [wds, Nat.add_assoc]
      · rw [decide_eq_false hlt]; rfl
  · cases hr')
end Go.Proofs.Ytdgnhaacdpmclaa
/- Attributes' values, as the program writes them: no loops. -/
namespace Go.Proofs.Ytdgnhaacdpmclaa
open Go.Am
set_option maxRecDepth 100000
def dC (a : At) (kr ku : Nat) : List SV := [.int .i64 a.ori, .psl 23 a.path, .int .u32 a.nx, .bool a.hm, .int .u32 a.med, .bool a.hp, .int .u32 a.prf, .bool a.ho, .int .u32 a.orr, .psl 24 a.cl, .psl 72 a.cm, .int .i64 a.tk, .int .u32 a.tl, .int .u32 a.tr, .int .u32 a.tg, .qs 1 1 0 kr, .qs 2 1 0 ku]
def dH (a : At) (R U : List SV) (kr ku m : Nat) (es : List SV) : HpL := [(0, .cells 57 (dC a kr ku)), (1, .seq 5 R), (2, .seq 5 U), (3, .cells 85 [.qs 4 1 0 m, .int .i64 65535, .mp 5]), (4, .seq 5 es), (5, .mpc [] [])]
def vArgs : List SV := [.ptr 0 0, .agg [.ptr 3 0]]
noncomputable abbrev κw := tbl [(47, wr_s 1), (48, wr_s 2), (59, wr_s 3), (58, wr_s 4), (49, bytes_s), (21, out_s)]
theorem wOk : KOk Try.prog κw := tbl_cons u8_k (tbl_cons u16_k (tbl_cons u24_k (tbl_cons u32_k (tbl_cons bytes_k (tbl_cons out_k ok0)))))

def Wc (k : Nat) (n : Int) (m : Nat) (es : List SV) (K : CTree) : CTree := bif decide (m = es.length ∧ 0 ≤ n ∧ n < 256 ^ k ∧ ((es.length + k : Nat) : Int) ≤ 65535 ∧ (65535 : Int) ≤ 65536) then K else .fail
theorem Wc_ok {k : Nat} {n : Int} {m : Nat} {es : List SV} {K : CTree} (h0 : m = es.length) (h1 : 0 ≤ n) (h2 : n < 256 ^ k) (h3 : es.length + k ≤ 65535) : Wc k n m es K = K := by
  unfold Wc; rw [decide_eq_true ⟨h0, h1, h2, by omega, by omega⟩]; rfl
/-- The tree that a row's value comes to. -/
def rowR (w : Bool) (n : Nat) (xs : List SV) : CTree := .ret (.tup [.bool w, .int .i64 0]) [(3, some (.cells 85 [.qs 6 1 0 n, .int .i64 65535, .mp 5])), (4, none), (6, some (.seq 5 xs))]
abbrev w6 (n : Int) : Int := IntKind.u64.wrap n
theorem w6_id {n : Int} (h0 : 0 ≤ n) (h1 : n < 18446744073709551616) : w6 n = n := by
  simp [w6, IntKind.wrap, IntKind.bits, IntKind.signed]; omega
def fam : List SV := be 6470 3
def reachB (a : At) (R : List SV) : List SV := [] ++ fam ++ be 4 1 ++ be (w6 a.nx) 4 ++ be 0 1 ++ R
def unreachB (U : List SV) : List SV := [] ++ fam ++ U
def tunB (a : At) : List SV := [] ++ be 0 1 ++ be (w6 a.tk) 1 ++ be (w6 a.tl) 3 ++ be (w6 a.tr) 4
def tunG (a : At) : List SV := tunB a ++ be (w6 a.tg) 4
def tunA (a : At) : List SV := bif a.tk == 3 then tunG a else tunB a
theorem row36 (a : At) (R U : List SV) (kr ku : Nat) : opn κw Try.f36 vArgs (dH a R U kr ku 0 []) = Wc 1 (w6 a.ori) 0 [] (rowR (decide ((kr : Int) > 0)) 1 (be (w6 a.ori) 1)) := by kernel_rfl
theorem row38 (a : At) (R U : List SV) (kr ku : Nat) : opn κw Try.f38 vArgs (dH a R U kr ku 0 []) = Wc 4 (w6 a.med) 0 [] (rowR a.hm 4 (be (w6 a.med) 4)) := by kernel_rfl
theorem row39 (a : At) (R U : List SV) (kr ku : Nat) : opn κw Try.f39 vArgs (dH a R U kr ku 0 []) = Wc 4 (w6 a.prf) 0 [] (rowR a.hp 4 (be (w6 a.prf) 4)) := by kernel_rfl
theorem row40 (a : At) (R U : List SV) (kr ku : Nat) : opn κw Try.f40 vArgs (dH a R U kr ku 0 []) = Wc 4 (w6 a.orr) 0 [] (rowR a.ho 4 (be (w6 a.orr) 4)) := by kernel_rfl
theorem row42 (a : At) (R U : List SV) (kr ku : Nat) : opn κw Try.f42 vArgs (dH a R U kr ku 0 []) = Wc 4 (w6 a.nx) (([] ++ fam).length + 1) ([] ++ fam ++ be 4 1)
   (bif decide (kr = R.length) then bif decide (([] ++ fam ++ be 4 1 ++ be (w6 a.nx) 4).length + 1 = ([] ++ fam ++ be 4 1 ++ be (w6 a.nx) 4 ++ be 0 1).length ∧ ((([] ++ fam ++ be 4 1 ++ be (w6 a.nx) 4 ++ be 0 1).length + R.length : Nat) : Int) ≤ 65535 ∧ (65535 : Int) ≤ 65536) then
     rowR (decide ((kr : Int) > 0)) (([] ++ fam ++ be 4 1 ++ be (w6 a.nx) 4 ++ be 0 1).length + R.length) (reachB a R) else .fail else .fail) := by kernel_rfl
theorem row43 (a : At) (R U : List SV) (kr ku : Nat) : opn κw Try.f43 vArgs (dH a R U kr ku 0 []) =
   (bif decide (ku = U.length) then bif decide (([] : List SV).length + 3 = ([] ++ fam).length ∧ ((([] ++ fam).length + U.length : Nat) : Int) ≤ 65535 ∧ (65535 : Int) ≤ 65536) then
     rowR (bif decide ((ku : Int) > 0) then true else (kr : Int) == 0) (([] ++ fam).length + U.length) (unreachB U) else .fail else .fail) := by kernel_rfl
theorem row45 (a : At) (R U : List SV) (kr ku : Nat) : opn κw Try.f45 vArgs (dH a R U kr ku 0 []) = Wc 1 (w6 a.tk) (([] : List SV).length + 1) ([] ++ be 0 1) (Wc 3 (w6 a.tl) (([] ++ be 0 1).length + 1) ([] ++ be 0 1 ++ be (w6 a.tk) 1) (Wc 4 (w6 a.tr) (([] ++ be 0 1 ++ be (w6 a.tk) 1).length + 3) ([] ++ be 0 1 ++ be (w6 a.tk) 1 ++ be (w6 a.tl) 3)
   (bif a.tk == 3 then Wc 4 (w6 a.tg) (([] ++ be 0 1 ++ be (w6 a.tk) 1 ++ be (w6 a.tl) 3).length + 4) (tunB a) (rowR (a.tk != 0) 13 (tunG a)) else rowR (a.tk != 0) 9 (tunB a)))) := by kernel_rfl
end Go.Proofs.Ytdgnhaacdpmclaa
/- Attributes' values with lists, as the program writes them. -/
namespace Go.Proofs.Ytdgnhaacdpmclaa
open Go.Am
set_option maxRecDepth 100000
/-- The numbers fit four bytes. -/
noncomputable def okW (l : List SV) : Bool := Classical.propDecidable (∀ k : Nat, 0 ≤ asI (l.getD k .junk) ∧ asI (l.getD k .junk) < 4294967296) |>.decide
noncomputable def lpT (m : Nat) (es xs : List SV) (more ok : Bool) : CTree :=
  .ite (decide (m = es.length) && ok) (.ite more (.ret (.tup [.int .i64 2]) [(1, some (.cells 85 [.qs 4 1 0 (es.length + xs.length), .int .i64 65535, .mp 3])), (2, none), (4, some (.seq 5 (es ++ xs)))]) (.ret (.tup [.int .i64 2]) [])) .fail
noncomputable def wLs (T : Nat) : CSumm
  | [.psl T' l, .int .i64 n, .int .i64 i, .ptr 0 0], [(0, .cells 89 [.ptr 1 0]), (1, .cells 85 [.qs 2 1 0 m, .int .i64 65535, .mp 3]), (2, .seq 5 es), (3, .mpc [] [])] =>
    bif Nat.beq T T' then lpT m es (wds (lft n i) l i) (decide (i < n)) (decide (n = l.length) && invW l i (m + 4 * lft n i) && okW l) else .fail
  | _, _ => .fail
def wM : List SV → HpL → Nat
  | [_, .int _ n, .int _ i, _], _ => lft n i
  | _, _ => 0
noncomputable def body37 : Code := Try.f37.body.getD .skip
noncomputable def c37 : Code := (loopAt 5 body37).getD .skip
noncomputable def e37 : LEnt := { ins := [32, 33, 34, 3], outs := [], keep := [0], size := 50, code := c37, s := wLs 23 }
noncomputable def body41 : Code := Try.f41.body.getD .skip
noncomputable def c41 : Code := (loopAt 2 body41).getD .skip
noncomputable def e41 : LEnt := { ins := [12, 13, 14, 3], outs := [], keep := [0], size := 31, code := c41, s := wLs 24 }
noncomputable abbrev κwo := openT Try.prog κw 300 5
noncomputable abbrev ιw : Nat → Bool := fun g => inl κw g && hasBody Try.prog g
def lpE (n : Nat) (xs : List SV) : CTree := .ret (.tup [.int .i64 2]) [(1, some (.cells 85 [.qs 4 1 0 n, .int .i64 65535, .mp 3])), (2, none), (4, some (.seq 5 xs))]
noncomputable def nextV (N : Nat) (l : List SV) (n i : Int) (m : Nat) (ys : List SV) : CTree :=
  bif Nat.blt (lft n i) N then bif decide (m = ys.length) && (decide (n = l.length) && invW l i (m + 4 * lft n i) && okW l) then bif decide (i < n) then lpE (ys.length + (wds (lft n i) l i).length) (ys ++ wds (lft n i) l i) else lpE m ys else .fail else .fail
theorem round37 (N : Nat) (l : List SV) (n i : Int) (m : Nat) (es : List SV) : loopOnce Try.prog κwo ιw (ltab []) true 300 e37 { e37 with s := boundT wM (wLs 23) N } c37 [.psl 23 l, .int .i64 n, .int .i64 i, .ptr 0 0] [(0, .cells 89 [.ptr 1 0]), (1, .cells 85 [.qs 2 1 0 m, .int .i64 65535, .mp 3]), (2, .seq 5 es), (3, .mpc [] [])] =
  bif decide (i < n) then bif inB i l.length then Wc 4 (w6 (asI (l.getD i.toNat .junk))) m es (nextV N l n (IntKind.i64.wrap (i + 1)) (es.length + 4) (es ++ wd l i)) else .fail else .ret (.tup [.int .i64 2]) [] := by kernel_rfl
theorem round41 (N : Nat) (l : List SV) (n i : Int) (m : Nat) (es : List SV) : loopOnce Try.prog κwo ιw (ltab []) true 300 e41 { e41 with s := boundT wM (wLs 24) N } c41 [.psl 24 l, .int .i64 n, .int .i64 i, .ptr 0 0] [(0, .cells 89 [.ptr 1 0]), (1, .cells 85 [.qs 2 1 0 m, .int .i64 65535, .mp 3]), (2, .seq 5 es), (3, .mpc [] [])] =
  bif decide (i < n) then bif inB i l.length then Wc 4 (w6 (asI (l.getD i.toNat .junk))) m es (nextV N l n (IntKind.i64.wrap (i + 1)) (es.length + 4) (es ++ wd l i)) else .fail else .ret (.tup [.int .i64 2]) [] := by kernel_rfl
theorem okW_iff {l : List SV} : okW l = true ↔ ∀ k : Nat, 0 ≤ asI (l.getD k .junk) ∧ asI (l.getD k .junk) < 4294967296 := by
  unfold okW; exact @decide_eq_true_iff _ (Classical.propDecidable _)
theorem nextV_ok {N : Nat} {l : List SV} {n i : Int} {ys : List SV} (h1 : lft n i < N) (h2 : (decide (n = l.length) && invW l i (ys.length + 4 * lft n i) && okW l) = true) :
    nextV N l n i ys.length ys = lpE (ys.length + (wds (lft n i) l i).length) (ys ++ wds (lft n i) l i) := by
  have hb : Nat.blt (lft n i) N = true := by rw [Nat.blt_eq]; exact h1
  unfold nextV
  rw [hb, h2, decide_eq_true rfl]
  by_cases hlt : i < n
  · rw [decide_eq_true hlt]; rfl
  · rw [decide_eq_false hlt, lft_zero hlt]
    simp [wds]
theorem w_ok (T : Nat) {c : Code} {e : LEnt} (hr : ∀ (N : Nat) (l : List SV) (n i : Int) (m : Nat) (es : List SV), loopOnce Try.prog κwo ιw (ltab []) true 300 e { e with s := boundT wM (wLs T) N } c [.psl T l, .int .i64 n, .int .i64 i, .ptr 0 0] [(0, .cells 89 [.ptr 1 0]), (1, .cells 85 [.qs 2 1 0 m, .int .i64 65535, .mp 3]), (2, .seq 5 es), (3, .mpc [] [])] =
  bif decide (i < n) then bif inB i l.length then Wc 4 (w6 (asI (l.getD i.toNat .junk))) m es (nextV N l n (IntKind.i64.wrap (i + 1)) (es.length + 4) (es ++ wd l i)) else .fail else .ret (.tup [.int .i64 2]) []) :
    ∀ (N : Nat) args H r, Nat.blt (wM args H) (N + 1) = true → crun (wLs T args H) = some r → crun (loopOnce Try.prog κwo ιw (ltab []) true 300 e { e with s := boundT wM (wLs T) N } c args H) = some r := by
  intro N args H r hb hr'
  unfold wLs at hr'
  split at hr'
  · rename_i T' l n i m es
    rw [crun_cond] at hr'
    cases hT : Nat.beq T T' with
    | false => rw [hT] at hr'; cases hr'
    | true =>
    have hT := Nat.eq_of_beq_eq_true hT
    subst hT
    rw [nb_t rfl, cond_true, lpT, crun_ite, crun_ite] at hr'
    cases hc : (decide (m = es.length) && (decide (n = l.length) && invW l i (m + 4 * lft n i) && okW l)) with
    | false => rw [hc] at hr'; cases hr'
    | true =>
      rw [hc, cond_true] at hr'
      have hc' := hc
      rw [Bool.and_eq_true, decide_eq_true_eq, Bool.and_eq_true, Bool.and_eq_true, decide_eq_true_eq] at hc'
      obtain ⟨rfl, ⟨rfl, hi⟩, ho⟩ := hc'
      obtain ⟨h0, h1, h2, h3⟩ := invW_iff.1 hi
      have hb' : lft l.length i < N + 1 := by
        have : Nat.blt (lft l.length i) (N + 1) = true := hb
        rwa [Nat.blt_eq] at this
      rw [hr, ← hr']
      by_cases hlt : i < l.length
      · have hs := lft_succ hlt
        have hw : IntKind.i64.wrap (i + 1) = i + 1 := w64_id (by omega) (by omega)
        have hin : inB i l.length = true := by unfold inB; simp; omega
        obtain ⟨g0, g1⟩ := okW_iff.1 ho i.toNat
        have hi2 : (decide ((l.length : Int) = l.length) && invW l (i + 1) ((es ++ wd l i).length + 4 * lft l.length (i + 1)) && okW l) = true := by
          rw [Bool.and_eq_true, Bool.and_eq_true]
          exact ⟨⟨decide_eq_true rfl, invW_iff.2 ⟨by omega, by omega, h2, by rw [List.length_append, wd_len]; omega⟩⟩, ho⟩
        rw [decide_eq_true hlt, hin, hw, cond_true, cond_true, cond_true, Wc_ok rfl (by rw [w6_id g0 (by omega)]; exact g0) (by rw [w6_id g0 (by omega)]; exact g1) (by omega), show es.length + 4 = (es ++ wd l i).length by rw [List.length_append, wd_len], nextV_ok (by omega) hi2, hs]
        simp [wds, lpE, Nat.add_assoc]
      · rw [decide_eq_false hlt]; rfl
  · cases hr'
theorem w37_valid : ValidL Try.prog e37 := loop_valid (κ := κwo) (ι := ιw) (T := ltab []) (sp := true) (fuel := 300) (c := c37) (μ := wM) (openT_ok noNumTry mixTry wOk 300 5) mixTry ltab_nil (show fillC (ltab []) c37 = c37 by kernel_rfl) (w_ok 23 round37)
theorem w41_valid : ValidL Try.prog e41 := loop_valid (κ := κwo) (ι := ιw) (T := ltab []) (sp := true) (fuel := 300) (c := c41) (μ := wM) (openT_ok noNumTry mixTry wOk 300 5) mixTry ltab_nil (show fillC (ltab []) c41 = c41 by kernel_rfl) (w_ok 24 round41)
end Go.Proofs.Ytdgnhaacdpmclaa
/- Communities, as the program writes them. -/
namespace Go.Proofs.Ytdgnhaacdpmclaa
open Go.Am
set_option maxRecDepth 100000
def cmB (l : List SV) (i : Int) : List SV := [.int .u8 (asI (cellAt (l.getD i.toNat .junk) 0)), .int .u8 (asI (cellAt (l.getD i.toNat .junk) 1)), .int .u8 (asI (cellAt (l.getD i.toNat .junk) 2)), .int .u8 (asI (cellAt (l.getD i.toNat .junk) 3)), .int .u8 (asI (cellAt (l.getD i.toNat .junk) 4)), .int .u8 (asI (cellAt (l.getD i.toNat .junk) 5)), .int .u8 (asI (cellAt (l.getD i.toNat .junk) 6)), .int .u8 (asI (cellAt (l.getD i.toNat .junk) 7))]
def cmBs : Nat → List SV → Int → List SV
  | 0, _, _ => []
  | k + 1, l, i => cmB l i ++ cmBs k l (i + 1)
noncomputable def lpT2 (m : Nat) (es xs : List SV) (more ok : Bool) : CTree :=
  .ite (decide (m = es.length) && ok) (.ite more (.ret (.tup [.int .i64 2]) [(2, none), (1, some (.cells 85 [.qs 4 1 0 (es.length + xs.length), .int .i64 65535, .mp 3])), (4, some (.seq 5 (es ++ xs)))]) (.ret (.tup [.int .i64 2]) [])) .fail
def lpE2 (n : Nat) (xs : List SV) : CTree := .ret (.tup [.int .i64 2]) [(2, none), (1, some (.cells 85 [.qs 4 1 0 n, .int .i64 65535, .mp 3])), (4, some (.seq 5 xs))]
noncomputable def cLs : CSumm
  | [.psl 72 l, .int .i64 n, .int .i64 i, .ptr 0 0], [(0, .cells 89 [.ptr 1 0]), (1, .cells 85 [.qs 2 1 0 m, .int .i64 65535, .mp 3]), (2, .seq 5 es), (3, .mpc [] [])] =>
    lpT2 m es (cmBs (lft n i) l i) (decide (i < n)) (decide (n = l.length) && invW l i (m + 8 * lft n i))
  | _, _ => .fail
noncomputable def body44 : Code := Try.f44.body.getD .skip
noncomputable def c44 : Code := (loopAt 2 body44).getD .skip
noncomputable def e44 : LEnt := { ins := [12, 13, 14, 3], outs := [], keep := [0], size := 30, code := c44, s := cLs }
noncomputable def nextC (N : Nat) (l : List SV) (n i : Int) (m : Nat) (ys : List SV) : CTree :=
  bif Nat.blt (lft n i) N then bif decide (m = ys.length) && (decide (n = l.length) && invW l i (m + 8 * lft n i)) then bif decide (i < n) then lpE2 (ys.length + (cmBs (lft n i) l i).length) (ys ++ cmBs (lft n i) l i) else lpE2 m ys else .fail else .fail
theorem round44 (N : Nat) (l : List SV) (n i : Int) (m : Nat) (es : List SV) : loopOnce Try.prog κwo ιw (ltab []) true 300 e44 { e44 with s := boundT wM cLs N } c44 [.psl 72 l, .int .i64 n, .int .i64 i, .ptr 0 0] [(0, .cells 89 [.ptr 1 0]), (1, .cells 85 [.qs 2 1 0 m, .int .i64 65535, .mp 3]), (2, .seq 5 es), (3, .mpc [] [])] =
  bif decide (i < n) then bif inB i l.length then bif decide (m = es.length ∧ ((es.length + (cmB l i).length : Nat) : Int) ≤ 65535 ∧ (65535 : Int) ≤ 65536) then nextC N l n (IntKind.i64.wrap (i + 1)) (es.length + (cmB l i).length) (es ++ cmB l i) else .fail else .fail else .ret (.tup [.int .i64 2]) [] := by kernel_rfl
theorem cmBs_len (l : List SV) : ∀ (k : Nat) (i : Int), (cmBs k l i).length = 8 * k
  | 0, _ => rfl
  | k + 1, i => by rw [cmBs, List.length_append, cmBs_len l k]; simp [cmB]; omega
theorem nextC_ok {N : Nat} {l : List SV} {n i : Int} {ys : List SV} (h1 : lft n i < N) (h2 : (decide (n = l.length) && invW l i (ys.length + 8 * lft n i)) = true) :
    nextC N l n i ys.length ys = lpE2 (ys.length + (cmBs (lft n i) l i).length) (ys ++ cmBs (lft n i) l i) := by
  have hb : Nat.blt (lft n i) N = true := by rw [Nat.blt_eq]; exact h1
  unfold nextC
  rw [hb, h2, decide_eq_true rfl]
  by_cases hlt : i < n
  · rw [decide_eq_true hlt]; rfl
  · rw [decide_eq_false hlt, lft_zero hlt]
    simp [cmBs]
theorem w44_valid : ValidL Try.prog e44 := loop_valid (κ := κwo) (ι := ιw) (T := ltab []) (sp := true) (fuel := 300) (c := c44) (μ := wM) (openT_ok noNumTry mixTry wOk 300 5) mixTry ltab_nil (show fillC (ltab []) c44 = c44 by kernel_rfl) (by
  intro N args H r hb hr0
  have hr' : crun (cLs args H) = some r := hr0
  unfold cLs at hr'
  split at hr'
  · rename_i l n i m es
    rw [lpT2, crun_ite, crun_ite] at hr'
    cases hc : (decide (m = es.length) && (decide (n = l.length) && invW l i (m + 8 * lft n i))) with
    | false => rw [hc] at hr'; cases hr'
    | true =>
      rw [hc, cond_true] at hr'
      have hc' := hc
      rw [Bool.and_eq_true, decide_eq_true_eq, Bool.and_eq_true, decide_eq_true_eq] at hc'
      obtain ⟨rfl, rfl, hi⟩ := hc'
      obtain ⟨h0, h1, h2, h3⟩ := invW_iff.1 hi
      have hb' : lft l.length i < N + 1 := by
        have : Nat.blt (lft l.length i) (N + 1) = true := hb
        rwa [Nat.blt_eq] at this
      refine (congrArg crun (round44 N l l.length i es.length es)).trans ?_
      rw [← hr']
      by_cases hlt : i < l.length
      · have hs := lft_succ hlt
        have hw : IntKind.i64.wrap (i + 1) = i + 1 := w64_id (by omega) (by omega)
        have hin : inB i l.length = true := by unfold inB; simp; omega
        have hcl : (cmB l i).length = 8 := rfl
        have hi2 : (decide ((l.length : Int) = l.length) && invW l (i + 1) ((es ++ cmB l i).length + 8 * lft l.length (i + 1))) = true := by
          rw [Bool.and_eq_true]
          exact ⟨decide_eq_true rfl, invW_iff.2 ⟨by omega, by omega, h2, by rw [List.length_append, hcl]; omega⟩⟩
        rw [decide_eq_true hlt, hin, hw, cond_true, cond_true, cond_true, decide_eq_true ⟨rfl, by rw [hcl]; omega, by omega⟩, cond_true, ← List.length_append, nextC_ok (by omega) hi2, hs]
        simp [cmBs, lpE2, Nat.add_assoc]
      · rw [decide_eq_false hlt]; rfl
  · cases hr')
end Go.Proofs.Ytdgnhaacdpmclaa
