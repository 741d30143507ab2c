/- What the reference writes is what the program writes. -/
import Derived.Test.YtdgnhaacdpmclaaPart5
import Derived.Test.YtdgnhaacdpmclaaPart1
import Derived.Test.YtdgnhaacdpmclaaMachine4
namespace Go.Proofs.Ytdgnhaacdpmclaa
open Go.Am
set_option maxRecDepth 100000
theorem stA_ok {f c : Int} {k m : Nat} {xs b : List SV} {K : KT} (hm : m = b.length) (hk : k = xs.length) (hl : b.length + xs.length ≤ 90000) : stA f c k xs m b K = K (b ++ attL f c xs).length (b ++ attL f c xs) := by
  unfold stA; rw [decide_eq_true ⟨hm, hk, hl⟩, cond_true, List.length_append]
theorem lpA_ok {ok : Bool} {m : Nat} {es xs : List SV} {K : KT} (ho : ok = true) (hm : m = es.length) : lpA ok m es xs K = K (es ++ xs).length (es ++ xs) := by
  unfold lpA; rw [ho, decide_eq_true hm]; rfl
def optB (h : Bool) (f c n : Int) : List SV := bif h then attL f c (be n 4) else []
theorem optB_len (h : Bool) (f c n : Int) : (optB h f c n).length ≤ 8 := by
  unfold optB
  cases h with
  | true => have := attL_len f c (be n 4); rw [be_len] at this; simpa using this
  | false => simp
theorem optA_ok {h : Bool} {f c n : Int} {m : Nat} {b : List SV} {K : KT} (hm : m = b.length) (hl : b.length ≤ 80000) : optA h f c n m b K = K (b ++ optB h f c n).length (b ++ optB h f c n) := by
  unfold optA optB
  cases h with
  | true => exact stA_ok hm (be_len n 4).symm (by rw [be_len]; omega)
  | false => simp [hm]
def clusB (a : At) : List SV := bif decide ((a.cl.length : Int) > 0) then attL 128 10 (wds a.cl.length a.cl 0) else []
def pathR (a : At) : List SV := bif decide ((a.path.length : Int) > 0) then [.int .u8 2, .int .u8 (IntKind.u8.wrap a.path.length)] ++ wds a.path.length a.path 0 else []
def annR (a : At) (R : List SV) : List SV :=
  attL 64 1 [.int .u8 (IntKind.u8.wrap a.ori)] ++ attL 64 2 (pathR a) ++ optB a.hm 128 4 (w6 a.med) ++ optB a.hp 64 5 (w6 a.prf) ++ optB a.ho 128 9 (w6 a.orr) ++ clusB a ++ attL 128 14 (nextA a ++ R)
theorem pathR_len (a : At) (h : OkA a) : (pathR a).length ≤ 402 := by
  have := h.pl
  unfold pathR
  cases decide ((a.path.length : Int) > 0) <;> simp [wds_len]; omega
theorem clusB_len (a : At) (h : OkA a) : (clusB a).length ≤ 404 := by
  have h1 := h.cl
  unfold clusB
  cases decide ((a.cl.length : Int) > 0) with
  | true => have := attL_len 128 10 (wds a.cl.length a.cl 0); rw [wds_len] at this; simp only [cond_true]; omega
  | false => simp
theorem annK1_ok {a : At} {l : List SV} (h : OkA a) (ho : okR l = true) (hl : 42 * l.length ≤ 50000) {k : Nat} (hk : k = (pathR a).length) : annK1 a l k (pathR a) = retA (annR a (nbs l)).length (annR a (nbs l)) := by
  have hp := pathR_len a h
  have hc := clusB_len a h
  have h1 : (attL 64 1 [.int .u8 (IntKind.u8.wrap a.ori)]).length = 4 := rfl
  have a1 := attL_len 64 2 (pathR a)
  have o1 := optB_len a.hm 128 4 (w6 a.med)
  have o2 := optB_len a.hp 64 5 (w6 a.prf)
  have o3 := optB_len a.ho 128 9 (w6 a.orr)
  have hcl := h.cl
  have hnb : (nbs l).length ≤ 50000 := by
    have : ∀ (k : Nat) (i : Int), (nbAll k l i).length ≤ 42 * k := by
      intro k
      induction k with
      | zero => intro i; simp [nbAll]
      | succ k ih => intro i; rw [nbAll, List.length_append]; have := nb_len (rt l i); have := ih (i + 1); omega
    have := this l.length 0
    unfold nbs; omega
  have hn9 : (nextA a).length = 9 := rfl
  have hK2 : ∀ (b : List SV), b.length ≤ 10000 → annK2 a l b.length b = retA (b ++ attL 128 14 (nextA a ++ nbs l)).length (b ++ attL 128 14 (nextA a ++ nbs l)) := by
    intro b hb
    unfold annK2
    rw [ho, decide_eq_true ⟨hn9.symm, by omega⟩]
    exact stA_ok rfl rfl (by rw [List.length_append, hn9]; omega)
  unfold annK1
  rw [stA_ok h1.symm hk (by rw [h1]; omega), optA_ok rfl (by simp only [List.length_append]; omega), optA_ok rfl (by simp only [List.length_append]; omega), optA_ok rfl (by simp only [List.length_append]; omega)]
  rw [lpA_ok (show clus1ok a [] 0 = true from invW0 (by omega) (by rw [lft0]; simp; omega)) (show 0 = ([] : List SV).length from rfl)]
  have hcs : clus1 a [] 0 = wds a.cl.length a.cl 0 := by unfold clus1; rw [lft0]
  simp only [List.nil_append, hcs]
  rw [wds_len]
  unfold annR clusB
  by_cases h0 : (a.cl.length : Int) > 0
  · rw [decide_eq_true h0, decide_eq_true (by omega), cond_true, cond_true, stA_ok rfl (wds_len _ _ _).symm (by rw [wds_len]; simp only [List.length_append]; omega)]
    have := attL_len 128 10 (wds a.cl.length a.cl 0)
    rw [wds_len] at this
    rw [hK2 _ (by simp only [List.length_append]; omega)]
  · rw [decide_eq_false h0, decide_eq_false (by omega), cond_false, cond_false, hK2 _ (by simp only [List.length_append]; omega), List.append_nil]
theorem ann_ok {a : At} {l : List SV} (h : OkA a) (ho : okR l = true) (hl : 42 * l.length ≤ 50000) : ann_b [a.v, .psl 47 l] [] = retA (annR a (nbs l)).length (annR a (nbs l)) := by
  have hp := h.pl
  rw [ann_t]
  by_cases h0 : (a.path.length : Int) > 0
  · have hr : pathR a = [.int .u8 2, .int .u8 (IntKind.u8.wrap a.path.length)] ++ path1 a [.int .u8 2, .int .u8 (IntKind.u8.wrap a.path.length)] 0 := by
      unfold pathR path1; rw [decide_eq_true h0, lft0]; rfl
    rw [decide_eq_true h0, cond_true, lpA_ok (show path1ok a [.int .u8 2, .int .u8 (IntKind.u8.wrap a.path.length)] 0 = true from invW0 (by omega) (by rw [lft0]; simp; omega)) (show 2 = ([.int .u8 2, .int .u8 (IntKind.u8.wrap a.path.length)] : List SV).length from rfl), ← hr]
    exact annK1_ok h ho hl rfl
  · have hr : pathR a = [] ++ path1 a [] 0 := by
      unfold pathR path1
      have : a.path.length = 0 := by omega
      rw [decide_eq_false h0, lft0, this]; rfl
    rw [decide_eq_false h0, cond_false, lpA_ok (show path1ok a [] 0 = true from invW0 (by omega) (by rw [lft0]; simp; omega)) (show 0 = ([] : List SV).length from rfl), ← hr]
    exact annK1_ok h ho hl rfl
end Go.Proofs.Ytdgnhaacdpmclaa
/- The reference's bytes: the tree. -/
namespace Go.Proofs.Ytdgnhaacdpmclaa
open Go.Am
set_option maxRecDepth 100000
def lastX (a : At) : List SV := putB 8 a [] [] ++ putB 9 a [] []
noncomputable def ann_s : CSumm := fun args H => match args, H with
  | [x, .psl 47 l], [] => match atOf x with
    | some a => .ite (dec (OkA a ∧ okR l = true ∧ 42 * l.length ≤ 50000)) (retA (annR a (nbs l)).length (annR a (nbs l))) .fail
    | none => .fail
  | _, _ => .fail
theorem ann_k : Known Try.prog 26 ann_s := (show Known Try.prog 26 ann_b from ⟨⟨Try.f26, Try.func26, noNum_at noNumTry Try.func26, rfl⟩, bodyL_valid (openT_ok noNumTry mixTry rOk 300 5) mixTry (ltab_cons pathX (ltab_cons clusX ltab_nil)) Try.func26 fill26⟩).weak (by
  intro args H v ups h
  unfold ann_s at h
  split at h
  · rename_i x l
    split at h
    · rename_i a ha
      rw [crun_ite] at h
      cases hc : dec (OkA a ∧ okR l = true ∧ 42 * l.length ≤ 50000) with
      | false => rw [hc] at h; cases h
      | true =>
        rw [hc] at h
        obtain ⟨h1, h2, h3⟩ := dec_iff.1 hc
        rw [atOf_v ha, ann_ok h1 h2 h3]
        exact h
    · cases h
  · cases h)
noncomputable def last_s : CSumm := fun args H => match args, H with
  | [x, .qs 0 1 0 m], [(0, .seq 5 es)] => match atOf x with
    | some a => .ite (dec (OkA a ∧ m = es.length ∧ es.length ≤ 60000)) (retL (es ++ lastX a).length (es ++ lastX a)) .fail
    | none => .fail
  | _, _ => .fail
theorem tunR_eq {a : At} (h : OkA a) : tunR a = tunB a ∧ tunR a ++ be (w6 a.tg) 4 = tunG a := by
  have e1 : w6 a.tk = a.tk := w6_id h.tk.1 (by have := h.tk.2; omega)
  have : tunR a = tunB a := by
    unfold tunR tunB
    rw [e1, w8_eq]
    simp [be]
  exact ⟨this, by rw [this]; rfl⟩
theorem lastK_ok {a : At} (h : OkA a) {same : CTree} {m : Nat} {b : List SV} (hm : m = b.length) (hb : b.length ≤ 80000) : lastK a same m b = bif a.tk == 0 then same else retL (b ++ putB 9 a [] []).length (b ++ putB 9 a [] []) := by
  obtain ⟨t1, t2⟩ := tunR_eq h
  unfold lastK
  cases hk : a.tk == 0 with
  | true => rfl
  | false =>
    have hp : putB 9 a [] [] = attL 192 22 (tunA a) := by
      show (bif a.tk != 0 then attL (flagR 9) (codeR 9) (tunA a) else []) = _
      have : (a.tk != 0) = true := by simp only [bne, hk]; rfl
      rw [this]; rfl
    rw [hp]
    unfold tunA
    simp only [cond_false]
    cases a.tk == 3 with
    | true =>
      rw [t2, cond_true, cond_true]
      exact stA_ok hm (by simp [tunG, tunB, be_len]) (by simp [tunG, tunB, be_len]; omega)
    | false =>
      rw [t1, cond_false, cond_false]
      exact stA_ok hm (by simp [tunB, be_len]) (by simp [tunB, be_len]; omega)
theorem last_k : Known Try.prog 30 last_s := known_ren (show Known Try.prog 30 last_b from ⟨⟨Try.f30, Try.func30, noNum_at noNumTry Try.func30, rfl⟩, bodyL_valid (openT_ok noNumTry mixTry rOk 300 5) mixTry (ltab_cons comX ltab_nil) Try.func30 fill30⟩) (by
  intro args H v ups h
  unfold last_s at h
  split at h
  · rename_i x m es
    split at h
    · rename_i a ha
      rw [crun_ite] at h
      cases hc : dec (OkA a ∧ m = es.length ∧ es.length ≤ 60000) with
      | false => rw [hc] at h; cases h
      | true =>
        rw [hc] at h
        obtain ⟨h1, rfl, h3⟩ := dec_iff.1 hc
        have h : crun (retL (es ++ lastX a).length (es ++ lastX a)) = some (v, ups) := h
        rw [atOf_v ha]
        have hcm := h1.cm
        have ht := last_t a es.length es
        rw [lpA_ok (show com1ok a [] 0 = true from invW0 (by omega) (by rw [lft0]; simp; omega)) (show 0 = ([] : List SV).length from rfl)] at ht
        have hcs : com1 a [] 0 = cmBs a.cm.length a.cm 0 := by unfold com1; rw [lft0]
        simp only [List.nil_append, hcs, cmBs_len] at ht
        have h0 : putB 9 a [] [] = [] ∨ (a.tk == 0) = false := by
          cases hk : a.tk == 0 with
          | true =>
            left
            show (bif a.tk != 0 then attL (flagR 9) (codeR 9) (tunA a) else []) = _
            have : (a.tk != 0) = false := by simp only [bne, hk]; rfl
            rw [this]; rfl
          | false => exact .inr rfl
        by_cases hn : (a.cm.length : Int) > 0
        · left
          have h8 : putB 8 a [] [] = attL 192 16 (cmBs a.cm.length a.cm 0) := by
            show (bif decide ((a.cm.length : Int) > 0) then attL (flagR 8) (codeR 8) (cmBs a.cm.length a.cm 0) else []) = _
            rw [decide_eq_true hn]; rfl
          have hal := attL_len 192 16 (cmBs a.cm.length a.cm 0)
          rw [cmBs_len] at hal
          rw [decide_eq_true (by omega), cond_true, stA_ok rfl (cmBs_len _ _ _).symm (by rw [cmBs_len]; omega), lastK_ok h1 rfl (by rw [List.length_append]; omega), ← h8] at ht
          refine ⟨ups, ?_, fun x => rfl⟩
          rw [ht, ← h]
          unfold lastX
          rw [← List.append_assoc]
          rcases h0 with h0 | h0
          · rw [h0, List.append_nil]; cases (a.tk == 0) <;> rfl
          · rw [h0]; rfl
        · have h8 : putB 8 a [] [] = [] := by
            show (bif decide ((a.cm.length : Int) > 0) then attL (flagR 8) (codeR 8) (cmBs a.cm.length a.cm 0) else []) = _
            rw [decide_eq_false hn]; rfl
          rw [decide_eq_false (by omega), cond_false, lastK_ok h1 rfl (by omega)] at ht
          unfold lastX at h
          rw [h8, List.nil_append] at h
          cases hk : a.tk == 0 with
          | true =>
            right
            rw [hk] at ht
            rcases h0 with h0 | h0
            · rw [h0, List.append_nil] at h
              cases h
              refine ⟨_, [], congrArg crun ht, 0, 1, by simp, by simp [namesS], ?_, rfl, ren1 es⟩
              intro x c hx
              have := HpL_get_some _ _ _ (show HpL.get [(0, .seq 5 es)] x = some c from hx)
              simp only [List.mem_cons, Prod.mk.injEq, List.not_mem_nil, or_false] at this
              obtain ⟨_, rfl⟩ := this
              simp [namesC]
            · rw [hk] at h0; cases h0
          | false =>
            left
            rw [hk] at ht
            refine ⟨ups, ?_, fun x => rfl⟩
            rw [ht, ← h]; rfl
    · cases h
  · cases h)
noncomputable abbrev κs := tbl [(11, acheck_s), (13, azero_s), (25, check_s), (26, ann_s), (27, attr2_s), (28, inS [some (5, 1), none] routes1_s), (30, last_s)]
theorem sOk : KOk Try.prog κs := tbl_cons acheckR_k (tbl_cons azeroR_k (tbl_cons rcheck_k (tbl_cons ann_k (tbl_cons attr2_k (tbl_cons (known_in routes1_k okF5) (tbl_cons last_k ok0))))))
noncomputable abbrev ref_b : CSumm := bodyCL Try.prog (openT Try.prog κs 300 5) (fun g => inl κs g && hasBody Try.prog g) T9 true 300 Try.f9 m9
def famL : List SV := [.int .u8 0, .int .u8 25, .int .u8 70]
def refEnd (B : List SV) : CTree := bif decide ((B.length : Int) > 65535) then .ret (.tup [.nils, .int .i64 5]) [] else .ret (.tup [.qs 0 1 0 B.length, .int .i64 0]) [(0, some (.seq 5 B))]
noncomputable def refLast (a : At) : KT := fun m b => bif dec (OkA a ∧ m = b.length ∧ b.length ≤ 60000) then refEnd (b ++ lastX a) else .fail
noncomputable def refU (u : List SV) (K : CTree) : CTree := bif decide (3 = famL.length ∧ 3 + 42 * u.length ≤ 60000) && okR u then K else .fail
theorem ref_t (a : At) (r u : List SV) : ref_b [a.v, .psl 47 r, .psl 47 u] [] =
  bif achk a != 0 then .ret (.tup [.nils, .int .i64 (achk a)]) [] else bif (bif (r.length : Int) == 0 then !azero a else false) then .ret (.tup [.nils, .int .i64 3]) [] else
  bif invB r u 0 then bif fst2 (lfB r u 0) r u 0 != 0 then .ret (.tup [.nils, .int .i64 (fst2 (lfB r u 0) r u 0)]) [] else
  bif decide (IntKind.i64.wrap (2 * IntKind.i64.wrap ((r.length : Int) + u.length)) > 65535) then .ret (.tup [.nils, .int .i64 5]) [] else
  bif decide ((r.length : Int) > 0) then
    bif dec (OkA a ∧ okR r = true ∧ 42 * r.length ≤ 50000) then
      bif (bif decide ((u.length : Int) > 0) then true else (r.length : Int) == 0) then refU u (stA 128 15 (famL ++ nbs u).length (famL ++ nbs u) (annR a (nbs r)).length (annR a (nbs r)) (refLast a)) else refLast a (annR a (nbs r)).length (annR a (nbs r))
    else .fail
  else bif (bif decide ((u.length : Int) > 0) then true else (r.length : Int) == 0) then refU u (bif decide ((famL ++ nbs u).length = (famL ++ nbs u).length ∧ (famL ++ nbs u).length ≤ 90000) then refLast a (attL 128 15 (famL ++ nbs u)).length (attL 128 15 (famL ++ nbs u)) else .fail) else .fail
  else .fail := by kernel_rfl
end Go.Proofs.Ytdgnhaacdpmclaa
/- Both write the same. -/
namespace Go.Proofs.Ytdgnhaacdpmclaa
open Go.Am
set_option maxRecDepth 100000
/-- All attributes. -/
def allB (a : At) (R U : List SV) : List SV := [] ++ putB 0 a R U ++ putB 1 a R U ++ putB 2 a R U ++ putB 3 a R U ++ putB 4 a R U ++ putB 5 a R U ++ putB 6 a R U ++ putB 7 a R U ++ putB 8 a R U ++ putB 9 a R U
theorem putB_len (r : Nat) (a : At) (R U : List SV) : (putB r a R U).length ≤ (valB r a R U).length + 4 := by
  unfold putB
  cases wrB r a R U with
  | true => exact attL_len _ _ _
  | false => simp
theorem valB_len {a : At} (h : OkA a) (R U : List SV) : ∀ r : Nat, (valB r a R U).length ≤ 802 + R.length + U.length
  | 0 => by show (be _ 1).length ≤ _; rw [be_len]; omega
  | 1 => by
    show (pathB a).length ≤ _
    have := h.pl
    unfold pathB
    cases decide ((a.path.length : Int) > 0) <;> simp [wds_len, be_len]; omega
  | 2 => by show (be _ 4).length ≤ _; rw [be_len]; omega
  | 3 => by show (be _ 4).length ≤ _; rw [be_len]; omega
  | 4 => by show (be _ 4).length ≤ _; rw [be_len]; omega
  | 5 => by show (wds _ _ _).length ≤ _; have := h.cl; rw [wds_len]; omega
  | 6 => by show (reachB a R).length ≤ _; simp [reachB, fam, be_len]; omega
  | 7 => by show (unreachB U).length ≤ _; simp [unreachB, fam, be_len]; omega
  | 8 => by show (cmBs _ _ _).length ≤ _; have := h.cm; rw [cmBs_len]; omega
  | r + 9 => by
    show (tunA a).length ≤ _
    unfold tunA
    cases (a.tk == 3) <;> simp [tunB, tunG, be_len] <;> omega
theorem putB_lt {a : At} (h : OkA a) (R U : List SV) (r : Nat) : (putB r a R U).length ≤ 806 + R.length + U.length := by
  have := putB_len r a R U
  have := valB_len h R U r
  omega
theorem rowC_ok {r : Nat} {a : At} {R U : List SV} {m : Nat} {es : List SV} {K : Nat → List SV → CTree} (h : OkA a) (hR : R.length ≤ 900) (hU : U.length ≤ 900) (hr : r ≤ 9) (hm : m = es.length) (he : es.length ≤ 40000) : rowC r a R U m es K = K (es ++ putB r a R U).length (es ++ putB r a R U) := by
  have hp := putB_lt h R U r
  unfold rowC
  have e : 36 + r - 36 = r := by omega
  rw [decide_eq_true (show 36 ≤ 36 + r ∧ 36 + r ≤ 45 ∧ codeR r = codeR (36 + r - 36) ∧ flagR r = flagR (36 + r - 36) by rw [e]; exact ⟨by omega, by omega, rfl, rfl⟩)]
  rw [dec_iff.2 ⟨(⟨h, by show R.length ≤ 40000; omega, by show U.length ≤ 40000; omega, rfl, rfl⟩ : OkD ⟨a, R, U, R.length, U.length, m, es⟩), hm, by rw [e, List.length_append]; omega⟩]
  rfl
theorem rows_ok {a : At} {R U : List SV} (h : OkA a) (hR : R.length ≤ 900) (hU : U.length ≤ 900) : rowsC a R U outC = .ret (.tup [.qs 0 1 0 (allB a R U).length, .int .i64 0]) [(0, some (.seq 5 (allB a R U)))] := by
  have hp := putB_lt h R U
  have h0 := hp 0; have h1 := hp 1; have h2 := hp 2; have h3 := hp 3; have h4 := hp 4; have h5 := hp 5; have h6 := hp 6; have h7 := hp 7; have h8 := hp 8; have h9 := hp 9
  unfold rowsC
  rw [rowC_ok h hR hU (by omega) (show 0 = ([] : List SV).length from rfl) (by simp)]
  rw [rowC_ok h hR hU (by omega) rfl (by simp only [List.length_append, List.length_nil]; omega)]
  rw [rowC_ok h hR hU (by omega) rfl (by simp only [List.length_append, List.length_nil]; omega)]
  rw [rowC_ok h hR hU (by omega) rfl (by simp only [List.length_append, List.length_nil]; omega)]
  rw [rowC_ok h hR hU (by omega) rfl (by simp only [List.length_append, List.length_nil]; omega)]
  rw [rowC_ok h hR hU (by omega) rfl (by simp only [List.length_append, List.length_nil]; omega)]
  rw [rowC_ok h hR hU (by omega) rfl (by simp only [List.length_append, List.length_nil]; omega)]
  rw [rowC_ok h hR hU (by omega) rfl (by simp only [List.length_append, List.length_nil]; omega)]
  rw [rowC_ok h hR hU (by omega) rfl (by simp only [List.length_append, List.length_nil]; omega)]
  rw [rowC_ok h hR hU (by omega) rfl (by simp only [List.length_append, List.length_nil]; omega)]
  show outC (allB a R U).length (allB a R U) = _
  unfold outC
  rw [decide_eq_true ⟨rfl, by unfold allB; simp only [List.length_append, List.length_nil]; omega⟩]
  rfl
theorem nbs_len (l : List SV) : 2 * l.length ≤ (nbs l).length ∧ (nbs l).length ≤ 42 * l.length := by
  have : ∀ (k : Nat) (i : Int), 2 * k ≤ (nbAll k l i).length ∧ (nbAll k l i).length ≤ 42 * k := by
    intro k
    induction k with
    | zero => intro i; simp [nbAll]
    | succ k ih =>
      intro i
      have h1 := ih (i + 1)
      have h2 := nb_len (rt l i)
      have h3 : 2 ≤ (nb (rt l i)).length := by
        unfold nb
        cases (rt l i).kind == 1 <;> cases (rt l i).kind == 2 <;> cases (rt l i).kind == 3 <;> cases (rt l i).kind == 4 <;> simp [encL]
      rw [nbAll, List.length_append]
      omega
  exact this l.length 0
theorem famL_eq : famL = fam := by simp [famL, fam, be]
theorem annR_eq {a : At} (h : OkA a) {R U : List SV} (hR : 0 < R.length) : annR a R = [] ++ putB 0 a R U ++ putB 1 a R U ++ putB 2 a R U ++ putB 3 a R U ++ putB 4 a R U ++ putB 5 a R U ++ putB 6 a R U := by
  have hd : decide ((R.length : Int) > 0) = true := decide_eq_true (by omega)
  have e1 : w6 a.ori = a.ori := w6_id h.ori.1 (by have := h.ori.2; omega)
  have hpl := h.pl
  have e2 : w6 a.path.length = a.path.length := w6_id (by omega) (by omega)
  have p0 : putB 0 a R U = attL 64 1 [.int .u8 (IntKind.u8.wrap a.ori)] := by
    show (bif decide ((R.length : Int) > 0) then attL 64 1 (be (w6 a.ori) 1) else []) = _
    rw [hd, e1, w8_eq]; simp [be]
  have p1 : putB 1 a R U = attL 64 2 (pathR a) := by
    show (bif decide ((R.length : Int) > 0) then attL 64 2 (pathB a) else []) = _
    rw [hd, cond_true]
    congr 1
    unfold pathB pathR
    rw [e2, w8_eq]; simp [be]
  have p2 : putB 2 a R U = optB a.hm 128 4 (w6 a.med) := rfl
  have p3 : putB 3 a R U = optB a.hp 64 5 (w6 a.prf) := rfl
  have p4 : putB 4 a R U = optB a.ho 128 9 (w6 a.orr) := rfl
  have p5 : putB 5 a R U = clusB a := rfl
  have p6 : putB 6 a R U = attL 128 14 (nextA a ++ R) := by
    show (bif decide ((R.length : Int) > 0) then attL 128 14 (reachB a R) else []) = _
    rw [hd, cond_true]
    congr 1
  rw [p0, p1, p2, p3, p4, p5, p6]
  rfl
theorem lastX_eq (a : At) (R U : List SV) : lastX a = putB 8 a R U ++ putB 9 a R U := rfl
theorem put7 (a : At) (R U : List SV) : putB 7 a R U = bif (bif decide ((U.length : Int) > 0) then true else (R.length : Int) == 0) then attL 128 15 (famL ++ U) else [] := by
  rw [famL_eq]; rfl
theorem azero_facts {a : At} (h : azero a = true) : a.hm = false ∧ a.hp = false ∧ a.ho = false ∧ a.cl.length = 0 := by
  have hb : ∀ x y : Bool, (bif x then y else false) = (x && y) := by decide
  unfold azero at h
  simp only [hb, Bool.and_eq_true, Bool.not_eq_true', beq_iff_eq] at h
  obtain ⟨⟨⟨⟨⟨⟨⟨⟨⟨⟨⟨_, _⟩, _⟩, h1⟩, _⟩, h2⟩, _⟩, h3⟩, _⟩, h4⟩, _⟩, _⟩ := h
  exact ⟨h1, h2, h3, by omega⟩
/-- What is asked of what is handed in. -/
structure Fit (a : At) (r u : List SV) : Prop where
  rl : r.length ≤ 20
  ul : u.length ≤ 20
  ok : chkAll a r u = 0 → OkA a ∧ okR r = true ∧ okR u = true
noncomputable def bytesG_s : CSumm := fun args H => match args, H with
  | [x, .psl 47 r, .psl 47 u], [] => match atOf x with
    | some a => .ite (dec (Fit a r u)) (.ite (chkAll a r u != 0) (.ret (.tup [.nils, .int .i64 (chkAll a r u)]) []) (.ret (.tup [.qs 0 1 0 (allB a (nbs r) (nbs u)).length, .int .i64 0]) [(0, some (.seq 5 (allB a (nbs r) (nbs u))))])) .fail
    | none => .fail
  | _, _ => .fail
theorem bytesG_case {args : List SV} {H : HpL} {v : SV} {ups : List (Nat × Option Chunk)} (h : crun (bytesG_s args H) = some (v, ups)) :
    ∃ (a : At) (r u : List SV), args = [a.v, .psl 47 r, .psl 47 u] ∧ H = [] ∧ Fit a r u ∧ crun (.ite (chkAll a r u != 0) (.ret (.tup [.nils, .int .i64 (chkAll a r u)]) []) (.ret (.tup [.qs 0 1 0 (allB a (nbs r) (nbs u)).length, .int .i64 0]) [(0, some (.seq 5 (allB a (nbs r) (nbs u))))])) = some (v, ups) := by
  unfold bytesG_s at h
  split at h
  · rename_i x r u
    split at h
    · rename_i a ha
      rw [crun_ite] at h
      cases hc : dec (Fit a r u) with
      | false => rw [hc] at h; cases h
      | true =>
        rw [hc] at h
        exact ⟨a, r, u, by rw [atOf_v ha], rfl, dec_iff.1 hc, h⟩
    · cases h
  · cases h
theorem bytes_k6 : Known Try.prog 6 bytesG_s := (openKnown qOk Try.func6 rfl).weak (by
  intro args H v ups h
  obtain ⟨a, r, u, rfl, rfl, hf, h⟩ := bytesG_case h
  have h1 := hf.rl; have h2 := hf.ul
  rw [← h, bytes_t, decide_eq_true (by omega), cond_true, crun_ite, crun_cond]
  cases hk : chkAll a r u != 0 with
  | true => rfl
  | false =>
    have h0 : chkAll a r u = 0 := by simpa using hk
    obtain ⟨o1, o2, o3⟩ := hf.ok h0
    have l1 := nbs_len r
    have l2 := nbs_len u
    rw [cond_false, cond_false, o2, o3, cond_true, cond_true, rows_ok o1 (by omega) (by omega)])
theorem bytes_k9 : Known Try.prog 9 bytesG_s := (show Known Try.prog 9 ref_b from ⟨⟨Try.f9, Try.func9, noNum_at noNumTry Try.func9, rfl⟩, bodyL_valid (openT_ok noNumTry mixTry sOk 300 5) mixTry (ltab_cons checkB_valid ltab_nil) Try.func9 fill9⟩).weak (by
  intro args H v ups h
  obtain ⟨a, r, u, rfl, rfl, hf, h⟩ := bytesG_case h
  have h1 := hf.rl; have h2 := hf.ul
  have hi : invB r u 0 = true := invB_iff.2 ⟨by omega, by omega, by omega, by omega⟩
  rw [← h, ref_t, hi, fst2_eq (by omega) (by omega), crun_ite]
  have hok := hf.ok
  unfold chkAll at hok ⊢
  cases ha : achk a != 0 with
  | true => simp only [cond_true, ha]
  | false =>
    rw [ha] at hok
    simp only [cond_false] at hok ⊢
    cases hz : (bif (r.length : Int) == 0 then !azero a else false) with
    | true => simp only [cond_true]; rfl
    | false =>
      rw [hz] at hok
      simp only [cond_false, cond_true] at hok ⊢
      cases hx : (bif fsts r != 0 then fsts r else fsts u) != 0 with
      | true => simp only [cond_true]
      | false =>
        have h0 : (bif fsts r != 0 then fsts r else fsts u) = 0 := by simpa using hx
        obtain ⟨o1, o2, o3⟩ := hok h0
        have l1 := nbs_len r
        have l2 := nbs_len u
        have hp := putB_lt o1 (nbs r) (nbs u)
        have hw : IntKind.i64.wrap ((r.length : Int) + u.length) = (r.length : Int) + u.length := w64_id (by omega) (by omega)
        have hw2 : IntKind.i64.wrap (2 * ((r.length : Int) + u.length)) = 2 * ((r.length : Int) + u.length) := w64_id (by omega) (by omega)
        rw [hw, hw2, decide_eq_false (by omega)]
        simp only [cond_false]
        have hlast : ∀ b : List SV, b.length ≤ 20000 → refLast a b.length b = .ret (.tup [.qs 0 1 0 (b ++ lastX a).length, .int .i64 0]) [(0, some (.seq 5 (b ++ lastX a)))] := by
          intro b hb
          have h8 := hp 8; have h9 := hp 9
          unfold refLast refEnd
          rw [dec_iff.2 ⟨o1, rfl, by omega⟩, cond_true, decide_eq_false (by rw [List.length_append, lastX_eq a (nbs r) (nbs u), List.length_append]; omega)]
          rfl
        have hall : allB a (nbs r) (nbs u) = ([] ++ putB 0 a (nbs r) (nbs u) ++ putB 1 a (nbs r) (nbs u) ++ putB 2 a (nbs r) (nbs u) ++ putB 3 a (nbs r) (nbs u) ++ putB 4 a (nbs r) (nbs u) ++ putB 5 a (nbs r) (nbs u) ++ putB 6 a (nbs r) (nbs u)) ++ putB 7 a (nbs r) (nbs u) ++ lastX a := by
          rw [lastX_eq a (nbs r) (nbs u)]; unfold allB; simp only [List.append_assoc]
        have hU : decide (((nbs u).length : Int) > 0) = decide ((u.length : Int) > 0) := by
          by_cases h3 : u.length = 0
          · rw [decide_eq_false (by omega), decide_eq_false (by omega)]
          · rw [decide_eq_true (by omega), decide_eq_true (by omega)]
        have hR0 : (((nbs r).length : Int) == 0) = ((r.length : Int) == 0) := by
          by_cases h3 : r.length = 0
          · rw [beq_iff_eq.2 (show ((nbs r).length : Int) = 0 by omega), beq_iff_eq.2 (show (r.length : Int) = 0 by omega)]
          · rw [beq_false_of_ne (show ((nbs r).length : Int) ≠ 0 by omega), beq_false_of_ne (show (r.length : Int) ≠ 0 by omega)]
        have h7 := put7 a (nbs r) (nbs u)
        rw [hU, hR0] at h7
        have a0 := hp 0; have a1 := hp 1; have a2 := hp 2; have a3 := hp 3; have a4 := hp 4; have a5 := hp 5; have a6 := hp 6; have a7 := hp 7
        have hf3 : famL.length = 3 := rfl
        by_cases hr : (r.length : Int) > 0
        · rw [decide_eq_true hr, cond_true, dec_iff.2 ⟨o1, o2, by omega⟩, cond_true]
          rw [annR_eq o1 (U := nbs u) (show 0 < (nbs r).length by omega)]
          cases hc : (bif decide ((u.length : Int) > 0) then true else (r.length : Int) == 0) with
          | true =>
            rw [hc, cond_true] at h7
            rw [cond_true]
            unfold refU
            rw [o3, decide_eq_true ⟨rfl, by omega⟩]
            show crun (stA 128 15 _ _ _ _ _) = _
            rw [stA_ok rfl rfl (by simp only [List.length_append, List.length_nil]; omega), ← h7, hlast _ (by simp only [List.length_append, List.length_nil]; omega), hall]
          | false =>
            rw [hc, cond_false] at h7
            rw [cond_false, hlast _ (by simp only [List.length_append, List.length_nil]; omega), hall, h7, List.append_nil]
        · have hr0 : r.length = 0 := by omega
          rw [decide_eq_false hr, cond_false]
          have hz0 : azero a = true := by
            rw [beq_iff_eq.2 (show (r.length : Int) = 0 by omega)] at hz
            simpa using hz
          obtain ⟨z1, z2, z3, z4⟩ := azero_facts hz0
          have hRz : decide (((nbs r).length : Int) > 0) = false := decide_eq_false (by omega)
          have hc : (bif decide ((u.length : Int) > 0) then true else (r.length : Int) == 0) = true := by
            rw [beq_iff_eq.2 (show (r.length : Int) = 0 by omega)]; cases decide ((u.length : Int) > 0) <;> rfl
          rw [hc, cond_true] at h7
          rw [hc, cond_true]
          have p0 : putB 0 a (nbs r) (nbs u) = [] := by
            show (bif decide (((nbs r).length : Int) > 0) then attL 64 1 (be (w6 a.ori) 1) else []) = _
            rw [hRz]; rfl
          have p1 : putB 1 a (nbs r) (nbs u) = [] := by
            show (bif decide (((nbs r).length : Int) > 0) then attL 64 2 (pathB a) else []) = _
            rw [hRz]; rfl
          have p2 : putB 2 a (nbs r) (nbs u) = [] := by show (bif a.hm then _ else []) = _; rw [z1]; rfl
          have p3 : putB 3 a (nbs r) (nbs u) = [] := by show (bif a.hp then _ else []) = _; rw [z2]; rfl
          have p4 : putB 4 a (nbs r) (nbs u) = [] := by show (bif a.ho then _ else []) = _; rw [z3]; rfl
          have p5 : putB 5 a (nbs r) (nbs u) = [] := by show (bif decide ((a.cl.length : Int) > 0) then _ else []) = _; rw [decide_eq_false (by omega)]; rfl
          have p6 : putB 6 a (nbs r) (nbs u) = [] := by
            show (bif decide (((nbs r).length : Int) > 0) then attL 128 14 (reachB a (nbs r)) else []) = _
            rw [hRz]; rfl
          rw [p0, p1, p2, p3, p4, p5, p6] at hall
          simp only [List.nil_append] at hall
          unfold refU
          rw [o3, decide_eq_true ⟨rfl, by omega⟩]
          simp only [Bool.and_self, cond_true]
          rw [decide_eq_true (show True ∧ (famL ++ nbs u).length ≤ 90000 from ⟨trivial, by rw [List.length_append, hf3]; omega⟩), cond_true, ← h7, hlast _ (by omega), hall])
end Go.Proofs.Ytdgnhaacdpmclaa
/- The examples hold. -/
namespace Go.Proofs.Ytdgnhaacdpmclaa
open Go.Am
set_option maxRecDepth 100000
def lives_s : CSumm := fun args H => match args, H with
  | [], [] => .ret (.bool true) []
  | _, _ => .fail
theorem lives_t : bodyC Try.prog (openT Try.prog (tbl []) 300 8) (fun g => inl (tbl []) g && hasBody Try.prog g) true 300 Try.f4 [] [] = .ret (.bool true) [] := by kernel_rfl
theorem lives_k : Known Try.prog 4 lives_s := known_of_bodyC noNumTry mixTry (openT_ok noNumTry mixTry ok0 300 8) Try.func4 rfl (by
  intro args H v ups h
  unfold lives_s at h
  split at h
  · rw [lives_t]; exact h
  · cases h)
end Go.Proofs.Ytdgnhaacdpmclaa
/- AttrCalls: the law's tree. -/
namespace Go.Proofs.Ytdgnhaacdpmclaa
open Go.Am
set_option maxRecDepth 100000
theorem grow_run {b n : Nat} {es : List SV} {v : SV} {u : List (Nat × Option Chunk)} {t : CTree} (h : bndE b es = true) (ht : t = bif decide (0 + es.length ≤ 9223372036854775807) && decide ((0 + es.length) * n ≤ 140737488355328) then .ret v u else .fail) (hb : n = b) : crun t = some (v, u) := by
  subst hb
  rw [ht]
  unfold bndE at h
  rw [Nat.zero_add, h]
  rfl
noncomputable abbrev b0 (fn : Func) : CSumm := bodyS Try.prog (tbl []) fn
theorem valid0 {f : FuncId} {fn : Func} (hf : Try.prog.funcs[f]? = some fn) : ValidC Try.prog f (b0 fn) := body_valid ok0 mixTry hf
theorem bytes23 : Try.prog.types[23].bytes = 4 := by kernel_rfl
theorem bytes24 : Try.prog.types[24].bytes = 4 := by kernel_rfl
theorem bytes72 : Try.prog.types[72].bytes = 8 := by kernel_rfl
theorem bytes47 : Try.prog.types[47].bytes = 80 := by kernel_rfl
theorem ow22_k : Known Try.prog 22 (cloneS 23 4) := known_own (sz := 1) noNumTry mixTry Try.func22 rfl (valid0 Try.func22) (fun es h => grow_run h (by kernel_rfl) bytes23)
theorem ow23_k : Known Try.prog 23 (cloneS 24 4) := known_own (sz := 1) noNumTry mixTry Try.func23 rfl (valid0 Try.func23) (fun es h => grow_run h (by kernel_rfl) bytes24)
theorem ow24_k : Known Try.prog 24 (cloneS 72 8) := known_own (sz := 8) noNumTry mixTry Try.func24 rfl (valid0 Try.func24) (fun es h => grow_run h (by kernel_rfl) bytes72)
theorem ow8_k : Known Try.prog 8 (cloneS 47 80) := known_own (sz := 21) noNumTry mixTry Try.func8 rfl (valid0 Try.func8) (fun es h => grow_run h (by kernel_rfl) bytes47)
noncomputable def bytesN_s : CSumm := fun args H => match args, H with
  | [x, .psl 47 r, .psl 47 u], [] => match atOf x with
    | some a => .ite (dec (Fit a r u ∧ chkAll a r u ≠ 0)) (.ret (.tup [.nils, .int .i64 (chkAll a r u)]) []) .fail
    | none => .fail
  | _, _ => .fail
noncomputable def bytesZ_s : CSumm := fun args H => match args, H with
  | [x, .psl 47 r, .psl 47 u], [] => match atOf x with
    | some a => .ite (dec (Fit a r u ∧ chkAll a r u = 0)) (.ret (.tup [.qs 0 1 0 (allB a (nbs r) (nbs u)).length, .int .i64 0]) [(0, some (.seq 5 (allB a (nbs r) (nbs u))))]) .fail
    | none => .fail
  | _, _ => .fail
theorem bytesN_of {f : Nat} (h : Known Try.prog f bytesG_s) : Known Try.prog f bytesN_s := h.weak (by
  intro args H v ups h
  unfold bytesN_s at h
  split at h
  · rename_i x r u
    split at h
    · rename_i a ha
      rw [crun_ite] at h
      cases hc : dec (Fit a r u ∧ chkAll a r u ≠ 0) with
      | false => rw [hc] at h; cases h
      | true =>
        rw [hc] at h
        obtain ⟨h1, h2⟩ := dec_iff.1 hc
        have : bytesG_s [x, .psl 47 r, .psl 47 u] [] = (match atOf x with
          | some a => .ite (dec (Fit a r u)) (.ite (chkAll a r u != 0) (.ret (.tup [.nils, .int .i64 (chkAll a r u)]) []) (.ret (.tup [.qs 0 1 0 (allB a (nbs r) (nbs u)).length, .int .i64 0]) [(0, some (.seq 5 (allB a (nbs r) (nbs u))))])) .fail
          | none => .fail) := rfl
        rw [this, ha]
        simp only [crun_ite]
        rw [dec_iff.2 h1, (by simpa using h2 : (chkAll a r u != 0) = true)]
        exact h
    · cases h
  · cases h)
theorem bytesZ_of {f : Nat} (h : Known Try.prog f bytesG_s) : Known Try.prog f bytesZ_s := h.weak (by
  intro args H v ups h
  unfold bytesZ_s at h
  split at h
  · rename_i x r u
    split at h
    · rename_i a ha
      rw [crun_ite] at h
      cases hc : dec (Fit a r u ∧ chkAll a r u = 0) with
      | false => rw [hc] at h; cases h
      | true =>
        rw [hc] at h
        obtain ⟨h1, h2⟩ := dec_iff.1 hc
        have : bytesG_s [x, .psl 47 r, .psl 47 u] [] = (match atOf x with
          | some a => .ite (dec (Fit a r u)) (.ite (chkAll a r u != 0) (.ret (.tup [.nils, .int .i64 (chkAll a r u)]) []) (.ret (.tup [.qs 0 1 0 (allB a (nbs r) (nbs u)).length, .int .i64 0]) [(0, some (.seq 5 (allB a (nbs r) (nbs u))))])) .fail
          | none => .fail) := rfl
        rw [this, ha]
        simp only [crun_ite]
        rw [dec_iff.2 h1, (by simpa using h2 : (chkAll a r u != 0) = false)]
        exact h
    · cases h
  · cases h)
noncomputable abbrev κA (s : CSumm) := tbl [(4, lives_s), (6, s), (9, s), (8, cloneS 47 80), (22, cloneS 23 4), (23, cloneS 24 4), (24, cloneS 72 8), (10, acheck_s), (11, acheck_s), (12, azero_s), (13, azero_s)]
theorem aOk {s : CSumm} (h6 : Known Try.prog 6 s) (h9 : Known Try.prog 9 s) : KOk Try.prog (κA s) := tbl_cons lives_k (tbl_cons h6 (tbl_cons h9 (tbl_cons ow8_k (tbl_cons ow22_k (tbl_cons ow23_k (tbl_cons ow24_k (tbl_cons acheck_k (tbl_cons acheckR_k (tbl_cons azero_k (tbl_cons azeroR_k ok0))))))))))
def lightB (a : At) (r u : List SV) : Bool := bif bif bif bif decide ((a.path.length : Int) ≤ 70) then decide ((a.cl.length : Int) ≤ 70) else false then decide ((a.cm.length : Int) ≤ 70) else false then decide ((r.length : Int) ≤ 20) else false then decide ((u.length : Int) ≤ 20) else false
noncomputable def preT (a : At) (r u : List SV) (K : CTree) : CTree :=
  bif !lightB a r u then .ret (.bool true) [] else bif Nat.beq 23 23 && bndE 4 a.path then bif Nat.beq 24 24 && bndE 4 a.cl then bif Nat.beq 72 72 && bndE 8 a.cm then bif Nat.beq 47 47 && bndE 80 r then bif Nat.beq 47 47 && bndE 80 u then K else .fail else .fail else .fail else .fail else .fail
def strC (n : Nat) (B : List SV) (K : List UInt8 → CTree) : CTree := bif decide (0 = 0) && decide (n = B.length) then K (B.map Am.byteOf) else bif decide (0 + n ≤ B.length) then K (((B.drop 0).take n).map Am.byteOf) else .fail
theorem lawN_t (a : At) (r u : List SV) : opn (κA bytesN_s) Try.f3 [a.v, .psl 47 r, .psl 47 u] [] = preT a r u (bif dec (Fit a r u ∧ chkAll a r u ≠ 0) then bif dec (Fit a r u ∧ chkAll a r u ≠ 0) then
   .ret (.bool (bif bif bif ([] : List SV).map Am.byteOf == ([] : List SV).map Am.byteOf then chkAll a r u == chkAll a r u else false then achk a == achk a else false then azero a == azero a else false)) [] else .fail else .fail) := by kernel_rfl
theorem lawZ_t (a : At) (r u : List SV) : opn (κA bytesZ_s) Try.f3 [a.v, .psl 47 r, .psl 47 u] [] = preT a r u (bif dec (Fit a r u ∧ chkAll a r u = 0) then bif dec (Fit a r u ∧ chkAll a r u = 0) then
   strC (allB a (nbs r) (nbs u)).length (allB a (nbs r) (nbs u)) fun x => strC (allB a (nbs r) (nbs u)).length (allB a (nbs r) (nbs u)) fun y => bif x == y then bif achk a == achk a then .ret (.bool (azero a == azero a)) [] else .ret (.bool false) [] else .ret (.bool false) [] else .fail else .fail) := by kernel_rfl
end Go.Proofs.Ytdgnhaacdpmclaa
