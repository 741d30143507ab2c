/- Attributes' values, each by one leaf. -/
import Derived.Test.YtdgnhaacdpmclaaPart4
namespace Go.Proofs.Ytdgnhaacdpmclaa
open Go.Am
set_option maxRecDepth 100000
noncomputable abbrev T37 : LTab := ltab [("w", e37)]
noncomputable def m37 : Code := markC [(5, "w")] body37
theorem fill37 : Try.f37.body = some (fillC T37 m37) := by kernel_rfl
noncomputable abbrev p37_b : CSumm := bodyCL Try.prog κwo ιw T37 true 300 Try.f37 m37
noncomputable abbrev T41 : LTab := ltab [("w", e41)]
noncomputable def m41 : Code := markC [(2, "w")] body41
theorem fill41 : Try.f41.body = some (fillC T41 m41) := by kernel_rfl
noncomputable abbrev p41_b : CSumm := bodyCL Try.prog κwo ιw T41 true 300 Try.f41 m41
noncomputable abbrev T44 : LTab := ltab [("w", e44)]
noncomputable def m44 : Code := markC [(2, "w")] body44
theorem fill44 : Try.f44.body = some (fillC T44 m44) := by kernel_rfl
noncomputable abbrev p44_b : CSumm := bodyCL Try.prog κwo ιw T44 true 300 Try.f44 m44

theorem p37_t (a : At) (R U : List SV) (kr ku : Nat) : p37_b vArgs (dH a R U kr ku 0 []) =
  bif decide ((a.path.length : Int) > 0) then Wc 1 (w6 a.path.length) (([] : List SV).length + 1) ([] ++ be 2 1) (bif decide ((([] : List SV) ++ be 2 1).length + 1 = (([] : List SV) ++ be 2 1 ++ be (w6 a.path.length) 1).length) && (decide ((a.path.length : Int) = a.path.length) && invW a.path 0 ((([] : List SV) ++ be 2 1).length + 1 + 4 * lft a.path.length 0) && okW a.path) then
    bif decide (0 < (a.path.length : Int)) then rowR (decide ((kr : Int) > 0)) ((([] : List SV) ++ be 2 1 ++ be (w6 a.path.length) 1).length + (wds (lft a.path.length 0) a.path 0).length) ((([] : List SV) ++ be 2 1 ++ be (w6 a.path.length) 1) ++ wds (lft a.path.length 0) a.path 0)
    else rowR (decide ((kr : Int) > 0)) 2 (([] : List SV) ++ be 2 1 ++ be (w6 a.path.length) 1) else .fail)
  else bif decide (0 = ([] : List SV).length) && (decide ((a.path.length : Int) = a.path.length) && invW a.path 0 (0 + 4 * lft a.path.length 0) && okW a.path) then
    bif decide (0 < (a.path.length : Int)) then .ret (.tup [.bool (decide ((kr : Int) > 0)), .int .i64 0]) [(4, none), (3, some (.cells 85 [.qs 6 1 0 (([] : List SV).length + (wds (lft a.path.length 0) a.path 0).length), .int .i64 65535, .mp 5])), (6, some (.seq 5 ([] ++ wds (lft a.path.length 0) a.path 0)))]
    else .ret (.tup [.bool (decide ((kr : Int) > 0)), .int .i64 0]) [] else .fail := by kernel_rfl
theorem p41_t (a : At) (R U : List SV) (kr ku : Nat) : p41_b vArgs (dH a R U kr ku 0 []) =
  bif decide (0 = ([] : List SV).length) && (decide ((a.cl.length : Int) = a.cl.length) && invW a.cl 0 (0 + 4 * lft a.cl.length 0) && okW a.cl) then
    bif decide (0 < (a.cl.length : Int)) then .ret (.tup [.bool (decide ((a.cl.length : Int) > 0)), .int .i64 0]) [(4, none), (3, some (.cells 85 [.qs 6 1 0 (([] : List SV).length + (wds (lft a.cl.length 0) a.cl 0).length), .int .i64 65535, .mp 5])), (6, some (.seq 5 ([] ++ wds (lft a.cl.length 0) a.cl 0)))]
    else .ret (.tup [.bool (decide ((a.cl.length : Int) > 0)), .int .i64 0]) [] else .fail := by kernel_rfl
theorem p44_t (a : At) (R U : List SV) (kr ku : Nat) : p44_b vArgs (dH a R U kr ku 0 []) =
  bif decide (0 = ([] : List SV).length) && (decide ((a.cm.length : Int) = a.cm.length) && invW a.cm 0 (0 + 8 * lft a.cm.length 0)) then
    bif decide (0 < (a.cm.length : Int)) then rowR (decide ((a.cm.length : Int) > 0)) (([] : List SV).length + (cmBs (lft a.cm.length 0) a.cm 0).length) ([] ++ cmBs (lft a.cm.length 0) a.cm 0)
    else .ret (.tup [.bool (decide ((a.cm.length : Int) > 0)), .int .i64 0]) [] else .fail := by kernel_rfl
/-- Attributes whose numbers are in range, and whose lists are short. -/
structure OkA (a : At) : Prop where
  ori : 0 ≤ a.ori ∧ a.ori < 256
  pl : a.path.length ≤ 100
  pw : okW a.path = true
  nx : 0 ≤ a.nx ∧ a.nx < 4294967296
  med : 0 ≤ a.med ∧ a.med < 4294967296
  prf : 0 ≤ a.prf ∧ a.prf < 4294967296
  orr : 0 ≤ a.orr ∧ a.orr < 4294967296
  cl : a.cl.length ≤ 100
  cw : okW a.cl = true
  cm : a.cm.length ≤ 100
  tk : 0 ≤ a.tk ∧ a.tk < 256
  tl : 0 ≤ a.tl ∧ a.tl < 16777216
  tr : 0 ≤ a.tr ∧ a.tr < 4294967296
  tg : 0 ≤ a.tg ∧ a.tg < 4294967296
noncomputable def dec (p : Prop) : Bool := (Classical.propDecidable p).decide
theorem dec_iff {p : Prop} : dec p = true ↔ p := by unfold dec; exact @decide_eq_true_iff _ (Classical.propDecidable _)
def pathB (a : At) : List SV := bif decide ((a.path.length : Int) > 0) then be 2 1 ++ be (w6 a.path.length) 1 ++ wds a.path.length a.path 0 else []
/-- The value of an attribute. -/
def valB : Nat → At → List SV → List SV → List SV
  | 0, a, _, _ => be (w6 a.ori) 1
  | 1, a, _, _ => pathB a
  | 2, a, _, _ => be (w6 a.med) 4
  | 3, a, _, _ => be (w6 a.prf) 4
  | 4, a, _, _ => be (w6 a.orr) 4
  | 5, a, _, _ => wds a.cl.length a.cl 0
  | 6, a, R, _ => reachB a R
  | 7, _, _, U => unreachB U
  | 8, a, _, _ => cmBs a.cm.length a.cm 0
  | _, a, _, _ => tunA a
/-- Whether it is written. -/
def wrB : Nat → At → List SV → List SV → Bool
  | 0, _, R, _ => decide ((R.length : Int) > 0)
  | 1, _, R, _ => decide ((R.length : Int) > 0)
  | 2, a, _, _ => a.hm
  | 3, a, _, _ => a.hp
  | 4, a, _, _ => a.ho
  | 5, a, _, _ => decide ((a.cl.length : Int) > 0)
  | 6, _, R, _ => decide ((R.length : Int) > 0)
  | 7, _, R, U => bif decide ((U.length : Int) > 0) then true else (R.length : Int) == 0
  | 8, a, _, _ => decide ((a.cm.length : Int) > 0)
  | _, a, _, _ => a.tk != 0
structure Draft where
  a : At
  R : List SV
  U : List SV
  kr : Nat
  ku : Nat
  m : Nat
  es : List SV
def dOf : HpL → Option Draft
  | [(0, .cells 57 [.int .i64 ori, .psl 23 path, .int .u32 nx, .bool hm, .int .u32 med, .bool hp, .int .u32 prf, .bool ho, .int .u32 orr, .psl 24 cl, .psl 72 cm, .int .i64 tk, .int .u32 tl, .int .u32 tr, .int .u32 tg, .qs 1 1 0 kr, .qs 2 1 0 ku]), (1, .seq 5 R), (2, .seq 5 U), (3, .cells 85 [.qs 4 1 0 m, .int .i64 65535, .mp 5]), (4, .seq 5 es), (5, .mpc [] [])] => some ⟨⟨ori, path, nx, hm, med, hp, prf, ho, orr, cl, cm, tk, tl, tr, tg⟩, R, U, kr, ku, m, es⟩
  | _ => none
theorem dOf_h {H : HpL} {d : Draft} (h : dOf H = some d) : H = dH d.a d.R d.U d.kr d.ku d.m d.es := by
  unfold dOf at h
  split at h
  · cases h; rfl
  · cases h
/-- The draft is well, and the writer is new. -/
structure OkD (d : Draft) : Prop where
  a : OkA d.a
  R : d.R.length ≤ 40000
  U : d.U.length ≤ 40000
  kr : d.kr = d.R.length
  ku : d.ku = d.U.length
noncomputable def row_s (r : Nat) : CSumm := fun args H => match args with
  | [.ptr 0 0, .agg [.ptr 3 0]] => match dOf H with
    | some d => .ite (dec (OkD d ∧ d.m = 0 ∧ d.es = [])) (rowR (wrB r d.a d.R d.U) (valB r d.a d.R d.U).length (valB r d.a d.R d.U)) .fail
    | none => .fail
  | _ => .fail
theorem row_case {r : Nat} {args : List SV} {H : HpL} {v : SV} {ups : List (Nat × Option Chunk)} (h : crun (row_s r args H) = some (v, ups)) :
    ∃ (a : At) (R U : List SV), args = vArgs ∧ H = dH a R U R.length U.length 0 [] ∧ OkA a ∧ R.length ≤ 40000 ∧ U.length ≤ 40000 ∧ crun (rowR (wrB r a R U) (valB r a R U).length (valB r a R U)) = some (v, ups) := by
  unfold row_s at h
  split at h
  · split at h
    · rename_i d hd
      rw [crun_ite] at h
      cases hc : dec (OkD d ∧ d.m = 0 ∧ d.es = []) with
      | false => rw [hc] at h; cases h
      | true =>
        rw [hc] at h
        obtain ⟨ho, h1, h2⟩ := dec_iff.1 hc
        refine ⟨d.a, d.R, d.U, rfl, ?_, ho.a, ho.R, ho.U, h⟩
        rw [dOf_h hd, ho.kr, ho.ku, h1, h2]
    · cases h
  · cases h
theorem row0_k : Known Try.prog 36 (row_s 0) := (openKnown wOk Try.func36 rfl).weak (by
  intro args H v ups h
  obtain ⟨a, R, U, rfl, rfl, ho, hR, hU, h⟩ := row_case h
  have hw : w6 a.ori = a.ori := w6_id ho.ori.1 (by have := ho.ori.2; omega)
  rw [row36, Wc_ok (show 0 = ([] : List SV).length from rfl) (by rw [hw]; exact ho.ori.1) (by rw [hw]; exact ho.ori.2) (by simp)]
  exact h)
theorem row2_k : Known Try.prog 38 (row_s 2) := (openKnown wOk Try.func38 rfl).weak (by
  intro args H v ups h
  obtain ⟨a, R, U, rfl, rfl, ho, hR, hU, h⟩ := row_case h
  have hw : w6 a.med = a.med := w6_id ho.med.1 (by have := ho.med.2; omega)
  rw [row38, Wc_ok (show 0 = ([] : List SV).length from rfl) (by rw [hw]; exact ho.med.1) (by rw [hw]; exact ho.med.2) (by simp)]
  exact h)
theorem row3_k : Known Try.prog 39 (row_s 3) := (openKnown wOk Try.func39 rfl).weak (by
  intro args H v ups h
  obtain ⟨a, R, U, rfl, rfl, ho, hR, hU, h⟩ := row_case h
  have hw : w6 a.prf = a.prf := w6_id ho.prf.1 (by have := ho.prf.2; omega)
  rw [row39, Wc_ok (show 0 = ([] : List SV).length from rfl) (by rw [hw]; exact ho.prf.1) (by rw [hw]; exact ho.prf.2) (by simp)]
  exact h)
theorem row4_k : Known Try.prog 40 (row_s 4) := (openKnown wOk Try.func40 rfl).weak (by
  intro args H v ups h
  obtain ⟨a, R, U, rfl, rfl, ho, hR, hU, h⟩ := row_case h
  have hw : w6 a.orr = a.orr := w6_id ho.orr.1 (by have := ho.orr.2; omega)
  rw [row40, Wc_ok (show 0 = ([] : List SV).length from rfl) (by rw [hw]; exact ho.orr.1) (by rw [hw]; exact ho.orr.2) (by simp)]
  exact h)
theorem row6_k : Known Try.prog 42 (row_s 6) := (openKnown wOk Try.func42 rfl).weak (by
  intro args H v ups h
  obtain ⟨a, R, U, rfl, rfl, ho, hR, hU, h⟩ := row_case h
  have hw : w6 a.nx = a.nx := w6_id ho.nx.1 (by have := ho.nx.2; omega)
  rw [row42, Wc_ok (by simp [fam, be_len]) (by rw [hw]; exact ho.nx.1) (by rw [hw]; exact ho.nx.2) (by simp [fam, be_len]), decide_eq_true rfl, decide_eq_true ⟨by simp [fam, be_len], by simp [fam, be_len]; omega, by omega⟩, cond_true, cond_true]
  rw [← h]
  simp [wrB, valB, reachB, rowR, Nat.add_assoc])
theorem row7_k : Known Try.prog 43 (row_s 7) := (openKnown wOk Try.func43 rfl).weak (by
  intro args H v ups h
  obtain ⟨a, R, U, rfl, rfl, ho, hR, hU, h⟩ := row_case h
  rw [row43, decide_eq_true rfl, decide_eq_true ⟨by simp [fam, be_len], by simp [fam, be_len]; omega, by omega⟩, cond_true, cond_true]
  rw [← h]
  simp [wrB, valB, unreachB, rowR])
theorem row9_k : Known Try.prog 45 (row_s 9) := (openKnown wOk Try.func45 rfl).weak (by
  intro args H v ups h
  obtain ⟨a, R, U, rfl, rfl, ho, hR, hU, h⟩ := row_case h
  have h1 : w6 a.tk = a.tk := w6_id ho.tk.1 (by have := ho.tk.2; omega)
  have h2 : w6 a.tl = a.tl := w6_id ho.tl.1 (by have := ho.tl.2; omega)
  have h3 : w6 a.tr = a.tr := w6_id ho.tr.1 (by have := ho.tr.2; omega)
  have h4 : w6 a.tg = a.tg := w6_id ho.tg.1 (by have := ho.tg.2; omega)
  rw [row45, Wc_ok (by simp [be_len]) (by rw [h1]; exact ho.tk.1) (by rw [h1]; exact ho.tk.2) (by simp [be_len]), Wc_ok (by simp [be_len]) (by rw [h2]; exact ho.tl.1) (by rw [h2]; exact ho.tl.2) (by simp [be_len]), Wc_ok (by simp [be_len]) (by rw [h3]; exact ho.tr.1) (by rw [h3]; exact ho.tr.2) (by simp [be_len]), Wc_ok (by simp [be_len, tunB]) (by rw [h4]; exact ho.tg.1) (by rw [h4]; exact ho.tg.2) (by simp [be_len, tunB])]
  rw [← h]
  show _ = crun (rowR (a.tk != 0) (tunA a).length (tunA a))
  unfold tunA
  cases (a.tk == 3) <;> rfl)
theorem dH_ren (a : At) (R U : List SV) (kr ku : Nat) : ∀ x, updF [(3, some (.cells 85 [.qs 6 1 0 0, .int .i64 65535, .mp 5])), (4, none), (6, some (.seq 5 []))] (dH a R U kr ku 0 []).get x =
    if x = 6 then (updF [] (dH a R U kr ku 0 []).get 4).map (renC (sw 4 6)) else if x = 4 then none else (updF [] (dH a R U kr ku 0 []).get x).map (renC (sw 4 6))
  | 0 => rfl | 1 => rfl | 2 => rfl | 3 => rfl | 4 => rfl | 5 => rfl | 6 => rfl
  | x + 7 => by
    have h1 : ∀ k, k < 7 → ¬ (x + 7 = k) := fun k hk => by omega
    have h2 : ∀ k, k < 7 → Nat.beq k (x + 7) = false := fun k hk => nb_f (by omega)
    simp only [updF, dH, HpL.get, h1 3 (by omega), h1 4 (by omega), h1 6 (by omega), if_false, h2 0 (by omega), h2 1 (by omega), h2 2 (by omega), h2 3 (by omega), h2 4 (by omega), h2 5 (by omega), cond_false, Option.map_none]
theorem dH_names (a : At) (R U : List SV) (kr ku : Nat) : ∀ x c, updF [] (dH a R U kr ku 0 []).get x = some c → 6 ∉ namesC c := by
  intro x c h
  have h : HpL.get (dH a R U kr ku 0 []) x = some c := h
  have := HpL_get_some _ _ _ h
  simp only [dH, List.mem_cons, Prod.mk.injEq, List.not_mem_nil, or_false] at this
  rcases this with ⟨_, rfl⟩ | ⟨_, rfl⟩ | ⟨_, rfl⟩ | ⟨_, rfl⟩ | ⟨_, rfl⟩ | ⟨_, rfl⟩ <;> simp [namesC, namesL, namesS, dC]
theorem no_rounds {f : Nat} {s : CSumm} {a : At} {R U : List SV} {w : Bool} {v : SV} {ups : List (Nat × Option Chunk)} (hs : crun (s vArgs (dH a R U R.length U.length 0 [])) = some (.tup [.bool w, .int .i64 0], [])) (h : crun (rowR w 0 []) = some (v, ups)) :
    ∃ v2 ups2, crun (s vArgs (dH a R U R.length U.length 0 [])) = some (v2, ups2) ∧ Renamed (dH a R U R.length U.length 0 []) v2 ups2 v ups := by
  cases h
  exact ⟨_, [], hs, 4, 6, by simp [dH], by simp [namesS, namesL], dH_names a R U _ _, rfl, dH_ren a R U _ _⟩
theorem lft0 (n : Nat) : lft (n : Int) 0 = n := by unfold lft; omega
theorem invW0 {l : List SV} {m : Nat} (h : l.length ≤ 1000) (hm : m ≤ 60000) : invW l 0 m = true := invW_iff.2 ⟨by omega, by omega, h, hm⟩
theorem row5_k : Known Try.prog 41 (row_s 5) := known_ren (s := p41_b) ⟨⟨Try.f41, Try.func41, noNum_at noNumTry Try.func41, rfl⟩, bodyL_valid (openT_ok noNumTry mixTry wOk 300 5) mixTry (ltab_cons w41_valid ltab_nil) Try.func41 fill41⟩ (by
  intro args H v ups h
  obtain ⟨a, R, U, rfl, rfl, ho, hR, hU, h⟩ := row_case h
  have hl := ho.cl
  have hc : (decide (0 = ([] : List SV).length) && (decide ((a.cl.length : Int) = a.cl.length) && invW a.cl 0 (0 + 4 * lft a.cl.length 0) && okW a.cl)) = true := by
    rw [lft0, invW0 (by omega) (by omega), ho.cw, decide_eq_true rfl]; rfl
  have ht := p41_t a R U R.length U.length
  rw [hc, cond_true] at ht
  by_cases h0 : (0 : Int) < a.cl.length
  · left
    have hw : wrB 5 a R U = true := decide_eq_true h0
    rw [hw] at h
    rw [decide_eq_true h0, cond_true, lft0] at ht
    rw [ht]
    cases h
    refine ⟨_, rfl, fun x => ?_⟩
    simp only [updF, valB, List.nil_append, List.length_nil, Nat.zero_add]
    by_cases h4 : x = 4
    · subst h4; rfl
    · rw [if_neg h4, if_neg h4]
  · right
    have hw : wrB 5 a R U = false := decide_eq_false h0
    rw [hw] at h
    rw [decide_eq_false h0, cond_false] at ht
    have he : a.cl.length = 0 := by omega
    refine no_rounds (f := 41) (w := false) (congrArg crun ht) ?_
    simpa [valB, he, wds] using h)
theorem row8_k : Known Try.prog 44 (row_s 8) := known_ren (s := p44_b) ⟨⟨Try.f44, Try.func44, noNum_at noNumTry Try.func44, rfl⟩, bodyL_valid (openT_ok noNumTry mixTry wOk 300 5) mixTry (ltab_cons w44_valid ltab_nil) Try.func44 fill44⟩ (by
  intro args H v ups h
  obtain ⟨a, R, U, rfl, rfl, ho, hR, hU, h⟩ := row_case h
  have hl := ho.cm
  have hc : (decide (0 = ([] : List SV).length) && (decide ((a.cm.length : Int) = a.cm.length) && invW a.cm 0 (0 + 8 * lft a.cm.length 0))) = true := by
    rw [lft0, invW0 (by omega) (by omega), decide_eq_true rfl]; rfl
  have ht := p44_t a R U R.length U.length
  rw [hc, cond_true] at ht
  by_cases h0 : (0 : Int) < a.cm.length
  · left
    have hw : wrB 8 a R U = true := decide_eq_true h0
    rw [hw] at h
    rw [decide_eq_true h0, cond_true, lft0] at ht
    rw [ht]
    cases h
    refine ⟨_, rfl, fun x => ?_⟩
    simp only [valB, List.nil_append, List.length_nil, Nat.zero_add]
  · right
    have hw : wrB 8 a R U = false := decide_eq_false h0
    rw [hw] at h
    rw [decide_eq_false h0, cond_false] at ht
    have he : a.cm.length = 0 := by omega
    refine no_rounds (f := 44) (w := false) (congrArg crun ht) ?_
    simpa [valB, he, cmBs] using h)
theorem row1_k : Known Try.prog 37 (row_s 1) := known_ren (s := p37_b) ⟨⟨Try.f37, Try.func37, noNum_at noNumTry Try.func37, rfl⟩, bodyL_valid (openT_ok noNumTry mixTry wOk 300 5) mixTry (ltab_cons w37_valid ltab_nil) Try.func37 fill37⟩ (by
  intro args H v ups h
  obtain ⟨a, R, U, rfl, rfl, ho, hR, hU, h⟩ := row_case h
  have hl := ho.pl
  have ht := p37_t a R U R.length U.length
  have hv : valB 1 a R U = pathB a := rfl
  rw [hv] at h
  by_cases h0 : (0 : Int) < a.path.length
  · left
    have hw : w6 a.path.length = a.path.length := w6_id (by omega) (by omega)
    have hp : pathB a = [] ++ be 2 1 ++ be (w6 a.path.length) 1 ++ wds a.path.length a.path 0 := by
      unfold pathB; rw [decide_eq_true h0]; rfl
    rw [decide_eq_true (show (a.path.length : Int) > 0 from h0), cond_true, Wc_ok (by simp [be_len]) (by rw [hw]; omega) (by rw [hw]; omega) (by simp [be_len]), decide_eq_true (by simp [be_len]), decide_eq_true rfl, lft0, invW0 (by omega) (by simp [be_len]; omega), ho.pw] at ht
    rw [ht, ← List.length_append, ← hp]
    cases h
    exact ⟨_, rfl, fun x => rfl⟩
  · right
    have hc : (decide (0 = ([] : List SV).length) && (decide ((a.path.length : Int) = a.path.length) && invW a.path 0 (0 + 4 * lft a.path.length 0) && okW a.path)) = true := by
      rw [lft0, invW0 (by omega) (by omega), ho.pw, decide_eq_true rfl]; rfl
    rw [decide_eq_false (show ¬ (a.path.length : Int) > 0 from h0), cond_false, hc, cond_true, cond_false] at ht
    have hp : pathB a = [] := by unfold pathB; rw [decide_eq_false (show ¬ (a.path.length : Int) > 0 from h0)]; rfl
    rw [hp] at h
    exact no_rounds (f := 37) (w := wrB 1 a R U) (congrArg crun ht) h)
end Go.Proofs.Ytdgnhaacdpmclaa
/- New writers; an attribute is put. -/
namespace Go.Proofs.Ytdgnhaacdpmclaa
open Go.Am
set_option maxRecDepth 100000
theorem nw_t : opn (tbl []) Try.f18 [.int .i64 65535] [] = .ret (.tup [.ptr 0 0, .int .i64 0]) [(0, some (.cells 85 [.nils, .int .i64 65535, .mp 1])), (1, some (.mpc [] []))] := by kernel_rfl
def nwU : List (Nat × Option Chunk) := [(0, some (.cells 85 [.qs 2 1 0 0, .int .i64 65535, .mp 1])), (1, some (.mpc [] [])), (2, some (.seq 5 []))]
def nw_s : CSumm := fun args H => match args, H with
  | [.int .i64 65535], [] => .ret (.tup [.ptr 0 0, .int .i64 0]) nwU
  | _, _ => .fail
theorem nw_k : Known Try.prog 18 nw_s := by
  have h := openKnown (f := 18) (fn := Try.f18) ok0 Try.func18 rfl
  refine ⟨h.fn, ?_⟩
  intro args H v ups hr hc ω θ Im w us hl hH hfr
  unfold nw_s at hr
  split at hr
  · cases hr
    refine (h.ok _ _ _ _ (congrArg crun nw_t) hc ω θ Im w us hl hH hfr).mono ?_
    rintro o w' ⟨u, θ', Im', rfl, hE, hv, hH'⟩
    let θ2 : Th := fun x => if x = 2 then none else θ' x
    have t2 : ∀ x, x ≠ 2 → θ2 x = θ' x := fun x hx => if_neg hx
    have hno : ∀ x, θ x = none := fun x => hfr x (Nat.zero_le x)
    have h0 := hH'.at_ 0 _ rfl
    have h1 := hH'.at_ 1 _ rfl
    have src : ∀ y c, updF nwU (HpL.get []) y = some c → (y = 0 ∧ c = .cells 85 [.qs 2 1 0 0, .int .i64 65535, .mp 1]) ∨ (y = 1 ∧ c = .mpc [] []) ∨ (y = 2 ∧ c = .seq 5 []) := by
      intro y c hy
      simp only [nwU, updF] at hy
      split at hy
      · rename_i e; cases hy; exact .inr (.inr ⟨e, rfl⟩)
      · split at hy
        · rename_i e; cases hy; exact .inr (.inl ⟨e, rfl⟩)
        · split at hy
          · rename_i e; cases hy; exact .inl ⟨e, rfl⟩
          · simp [HpL.get] at hy
    have old : ∀ y c b N, updF nwU (HpL.get []) y = some c → θ2 y = some (b, N) → ∃ c', updF [(0, some (.cells 85 [.nils, .int .i64 65535, .mp 1])), (1, some (.mpc [] []))] (HpL.get []) y = some c' ∧ θ' y = some (b, N) := by
      intro y c b N hy ht
      rcases src y c hy with ⟨rfl, _⟩ | ⟨rfl, _⟩ | ⟨rfl, _⟩
      · exact ⟨_, rfl, ht⟩
      · exact ⟨_, rfl, ht⟩
      · cases ht
    refine ⟨u, θ2, Im', rfl, ?_, ?_, ?_⟩
    · refine { thOld := fun x hx => absurd (Nat.zero_le x) hx, thUp := fun x p hp => (by rw [hno x] at hp; cases hp), imUp := hE.imUp, size := hE.size, keep := hE.keep, os := hE.os, output := hE.output, tape := hE.tape, imNew := hE.imNew, ownNew := fun y c b N hy hx => ?_ }
      obtain ⟨c', h3, h4⟩ := old y c b N hy hx
      exact hE.ownNew y c' b N h3 h4
    · exact hv.ren id (fun x hx p hp => by
        have : x = 0 := by simpa [namesS, namesL] using hx
        subst this; exact hp)
    · refine ⟨fun y c hy => ?_, fun y y' c c' b N N' hy hy' hx hx' => ?_, fun y c b N hy hx => ?_, hH'.im⟩
      · rcases src y c hy with ⟨rfl, rfl⟩ | ⟨rfl, rfl⟩ | ⟨rfl, rfl⟩
        · obtain ⟨b, cs, fr, a1, a2, a3, a4⟩ := h0
          refine ⟨b, cs, fr, a1, a2, a3, a4.len, fun i v u hi hu => ?_⟩
          match i, hi with
          | 0, hi =>
            simp at hi; subst hi
            have := a4.at_ 0 .nils u rfl hu
            cases this; exact .qsnil rfl
          | 1, hi => simp at hi; subst hi; exact (a4.at_ 1 _ u rfl hu).ren id (fun x hx => by cases hx)
          | 2, hi => simp at hi; subst hi; exact (a4.at_ 2 _ u rfl hu).ren id (fun x hx p hp => by
              have : x = 1 := by simpa [namesS] using hx
              subst this; exact hp)
        · exact h1.ren id (fun x hx => by cases hx) rfl
        · exact .inl ⟨rfl, rfl⟩
      · obtain ⟨c1, h3, h4⟩ := old y c b N hy hx
        obtain ⟨c2, h5, h6⟩ := old y' c' b N' hy' hx'
        exact hH'.inj y y' c1 c2 b N N' h3 h5 h4 h6
      · obtain ⟨c1, h3, h4⟩ := old y c b N hy hx
        exact hH'.own y c1 b N h3 h4
  · cases hr
noncomputable abbrev κp := tbl [(18, nw_s), (36, row_s 0), (37, row_s 1), (38, row_s 2), (39, row_s 3), (40, row_s 4), (41, row_s 5), (42, row_s 6), (43, row_s 7), (44, row_s 8), (45, row_s 9), (47, wr_s 1), (48, wr_s 2), (49, bytes_s), (21, out_s)]
theorem pOk : KOk Try.prog κp := tbl_cons nw_k (tbl_cons row0_k (tbl_cons row1_k (tbl_cons row2_k (tbl_cons row3_k (tbl_cons row4_k (tbl_cons row5_k (tbl_cons row6_k (tbl_cons row7_k (tbl_cons row8_k (tbl_cons row9_k (tbl_cons u8_k (tbl_cons u16_k (tbl_cons bytes_k (tbl_cons out_k ok0))))))))))))))
def pArgs (c f : Int) (g : Nat) : List SV := [.ptr 0 0, .ptr 3 0, .agg [.int .u8 c, .int .u8 f, .fn (.func g) [] []]]

def putF (mm : Nat) (h xs : List SV) : CTree := bif decide (xs.length = xs.length) then bif decide (mm = h.length ∧ ((h.length + xs.length : Nat) : Int) ≤ 65535 ∧ (65535 : Int) ≤ 65536) then .ret (.int .i64 0) [(3, some (.cells 85 [.qs 6 1 0 (h.length + xs.length), .int .i64 65535, .mp 5])), (4, none), (6, some (.seq 5 (h ++ xs)))] else .fail else .fail
def putTr (f c : Int) (xs : List SV) (w : Bool) (m : Nat) (es : List SV) : CTree :=
  bif bif (0 : Int) != 0 then true else !w then .ret (.int .i64 0) [] else
  bif decide (xs.length = xs.length ∧ xs.length ≤ 65536) then
   bif decide ((xs.length : Int) > 255) then Wc 1 (w6 (orF f)) m es (Wc 1 (w6 c) (es.length + 1) (es ++ be (w6 (orF f)) 1) (Wc 2 (w6 xs.length) ((es ++ be (w6 (orF f)) 1).length + 1) (es ++ be (w6 (orF f)) 1 ++ be (w6 c) 1)
     (putF ((es ++ be (w6 (orF f)) 1 ++ be (w6 c) 1).length + 2) (es ++ be (w6 (orF f)) 1 ++ be (w6 c) 1 ++ be (w6 xs.length) 2) xs)))
   else Wc 1 (w6 f) m es (Wc 1 (w6 c) (es.length + 1) (es ++ be (w6 f) 1) (Wc 1 (w6 xs.length) ((es ++ be (w6 f) 1).length + 1) (es ++ be (w6 f) 1 ++ be (w6 c) 1)
     (putF ((es ++ be (w6 f) 1 ++ be (w6 c) 1).length + 1) (es ++ be (w6 f) 1 ++ be (w6 c) 1 ++ be (w6 xs.length) 1) xs)))
  else .fail
def codeR : Nat → Int
  | 0 => 1 | 1 => 2 | 2 => 4 | 3 => 5 | 4 => 9 | 5 => 10 | 6 => 14 | 7 => 15 | 8 => 16 | _ => 22
def flagR : Nat → Int
  | 0 => 64 | 1 => 64 | 2 => 128 | 3 => 64 | 4 => 128 | 5 => 128 | 6 => 128 | 7 => 128 | 8 => 192 | _ => 192
theorem put_t0 (a : At) (R U : List SV) (kr ku m : Nat) (es : List SV) : opn κp Try.f20 (pArgs 1 64 36) (dH a R U kr ku m es) = bif dec (OkD ⟨a, R, U, kr, ku, 0, []⟩ ∧ (0 : Nat) = 0 ∧ ([] : List SV) = []) then putTr 64 1 (valB 0 a R U) (wrB 0 a R U) m es else .fail := by kernel_rfl
theorem put_t1 (a : At) (R U : List SV) (kr ku m : Nat) (es : List SV) : opn κp Try.f20 (pArgs 2 64 37) (dH a R U kr ku m es) = bif dec (OkD ⟨a, R, U, kr, ku, 0, []⟩ ∧ (0 : Nat) = 0 ∧ ([] : List SV) = []) then putTr 64 2 (valB 1 a R U) (wrB 1 a R U) m es else .fail := by kernel_rfl
theorem put_t2 (a : At) (R U : List SV) (kr ku m : Nat) (es : List SV) : opn κp Try.f20 (pArgs 4 128 38) (dH a R U kr ku m es) = bif dec (OkD ⟨a, R, U, kr, ku, 0, []⟩ ∧ (0 : Nat) = 0 ∧ ([] : List SV) = []) then putTr 128 4 (valB 2 a R U) (wrB 2 a R U) m es else .fail := by kernel_rfl
theorem put_t3 (a : At) (R U : List SV) (kr ku m : Nat) (es : List SV) : opn κp Try.f20 (pArgs 5 64 39) (dH a R U kr ku m es) = bif dec (OkD ⟨a, R, U, kr, ku, 0, []⟩ ∧ (0 : Nat) = 0 ∧ ([] : List SV) = []) then putTr 64 5 (valB 3 a R U) (wrB 3 a R U) m es else .fail := by kernel_rfl
theorem put_t4 (a : At) (R U : List SV) (kr ku m : Nat) (es : List SV) : opn κp Try.f20 (pArgs 9 128 40) (dH a R U kr ku m es) = bif dec (OkD ⟨a, R, U, kr, ku, 0, []⟩ ∧ (0 : Nat) = 0 ∧ ([] : List SV) = []) then putTr 128 9 (valB 4 a R U) (wrB 4 a R U) m es else .fail := by kernel_rfl
theorem put_t5 (a : At) (R U : List SV) (kr ku m : Nat) (es : List SV) : opn κp Try.f20 (pArgs 10 128 41) (dH a R U kr ku m es) = bif dec (OkD ⟨a, R, U, kr, ku, 0, []⟩ ∧ (0 : Nat) = 0 ∧ ([] : List SV) = []) then putTr 128 10 (valB 5 a R U) (wrB 5 a R U) m es else .fail := by kernel_rfl
theorem put_t6 (a : At) (R U : List SV) (kr ku m : Nat) (es : List SV) : opn κp Try.f20 (pArgs 14 128 42) (dH a R U kr ku m es) = bif dec (OkD ⟨a, R, U, kr, ku, 0, []⟩ ∧ (0 : Nat) = 0 ∧ ([] : List SV) = []) then putTr 128 14 (valB 6 a R U) (wrB 6 a R U) m es else .fail := by kernel_rfl
theorem put_t7 (a : At) (R U : List SV) (kr ku m : Nat) (es : List SV) : opn κp Try.f20 (pArgs 15 128 43) (dH a R U kr ku m es) = bif dec (OkD ⟨a, R, U, kr, ku, 0, []⟩ ∧ (0 : Nat) = 0 ∧ ([] : List SV) = []) then putTr 128 15 (valB 7 a R U) (wrB 7 a R U) m es else .fail := by kernel_rfl
theorem put_t8 (a : At) (R U : List SV) (kr ku m : Nat) (es : List SV) : opn κp Try.f20 (pArgs 16 192 44) (dH a R U kr ku m es) = bif dec (OkD ⟨a, R, U, kr, ku, 0, []⟩ ∧ (0 : Nat) = 0 ∧ ([] : List SV) = []) then putTr 192 16 (valB 8 a R U) (wrB 8 a R U) m es else .fail := by kernel_rfl
theorem put_t9 (a : At) (R U : List SV) (kr ku m : Nat) (es : List SV) : opn κp Try.f20 (pArgs 22 192 45) (dH a R U kr ku m es) = bif dec (OkD ⟨a, R, U, kr, ku, 0, []⟩ ∧ (0 : Nat) = 0 ∧ ([] : List SV) = []) then putTr 192 22 (valB 9 a R U) (wrB 9 a R U) m es else .fail := by kernel_rfl
end Go.Proofs.Ytdgnhaacdpmclaa
/- An attribute is put: one leaf. -/
namespace Go.Proofs.Ytdgnhaacdpmclaa
open Go.Am
set_option maxRecDepth 100000
/-- What a row adds. -/
def putB (r : Nat) (a : At) (R U : List SV) : List SV := bif wrB r a R U then attL (flagR r) (codeR r) (valB r a R U) else []
def putLeaf (es xs : List SV) : CTree := .ret (.int .i64 0) [(3, some (.cells 85 [.qs 6 1 0 (es ++ xs).length, .int .i64 65535, .mp 5])), (4, none), (6, some (.seq 5 (es ++ xs)))]
noncomputable def put20_s : CSumm := fun args H => match args with
  | [.ptr 0 0, .ptr 3 0, .agg [.int .u8 c, .int .u8 f, .fn (.func g) [] []]] => match dOf H with
    | some d => .ite (decide (36 ≤ g ∧ g ≤ 45 ∧ c = codeR (g - 36) ∧ f = flagR (g - 36)) && dec (OkD d ∧ d.m = d.es.length ∧ (d.es ++ putB (g - 36) d.a d.R d.U).length ≤ 60000)) (putLeaf d.es (putB (g - 36) d.a d.R d.U)) .fail
    | none => .fail
  | _ => .fail
theorem attL_short {f c : Int} {v : List SV} (h : v.length ≤ 255) (h1 : 0 ≤ f ∧ f < 256) (h2 : 0 ≤ c ∧ c < 256) : attL f c v = be (w6 f) 1 ++ be (w6 c) 1 ++ be (w6 v.length) 1 ++ v := by
  have e1 : w6 f = f := w6_id h1.1 (by omega)
  have e2 : w6 c = c := w6_id h2.1 (by omega)
  have e3 : w6 v.length = v.length := w6_id (by omega) (by omega)
  unfold attL
  rw [decide_eq_false (by omega), cond_false, e1, e2, e3, hdS, w8_eq]
  simp only [be, List.cons_append, List.nil_append]
  rw [show f / 256 ^ 0 % 256 = f by rw [Int.pow_zero, Int.ediv_one]; omega, show c / 256 ^ 0 % 256 = c by rw [Int.pow_zero, Int.ediv_one]; omega, show (v.length : Int) / 256 ^ 0 % 256 = (v.length : Int) % 256 by rw [Int.pow_zero, Int.ediv_one]]
theorem attL_long {f c : Int} {v : List SV} (h : 255 < v.length) (h1 : 0 ≤ orF f ∧ orF f < 256) (h2 : 0 ≤ c ∧ c < 256) : attL f c v = be (w6 (orF f)) 1 ++ be (w6 c) 1 ++ be (w6 v.length) 2 ++ v := by
  have e1 : w6 (orF f) = orF f := w6_id h1.1 (by omega)
  have e2 : w6 c = c := w6_id h2.1 (by omega)
  unfold attL
  rw [decide_eq_true (by omega), cond_true, e1, e2, hdL]
  simp only [be, List.cons_append, List.nil_append]
  rw [show orF f / 256 ^ 0 % 256 = orF f by rw [Int.pow_zero, Int.ediv_one]; omega, show c / 256 ^ 0 % 256 = c by rw [Int.pow_zero, Int.ediv_one]; omega]
theorem putTr_ok {f c : Int} {xs es : List SV} {w : Bool} (hw : w = true) (hx : (es ++ attL f c xs).length ≤ 60000) (h1 : 0 ≤ f ∧ f < 256) (h2 : 0 ≤ c ∧ c < 256) (h3 : 0 ≤ orF f ∧ orF f < 256) : putTr f c xs w es.length es = putLeaf es (attL f c xs) := by
  subst hw
  have e1 : w6 f = f := w6_id h1.1 (by omega)
  have e2 : w6 c = c := w6_id h2.1 (by omega)
  have e3 : w6 (orF f) = orF f := w6_id h3.1 (by omega)
  have hl : xs.length ≤ (es ++ attL f c xs).length := by
    unfold attL
    cases decide ((xs.length : Int) > 255) <;> simp <;> omega
  have hl2 : es.length + xs.length ≤ 60000 := by
    refine Nat.le_trans ?_ hx
    unfold attL
    cases decide ((xs.length : Int) > 255) <;> simp <;> omega
  have e4 : w6 xs.length = xs.length := w6_id (by omega) (by omega)
  unfold putTr
  rw [decide_eq_true (show xs.length = xs.length ∧ xs.length ≤ 65536 from ⟨rfl, by omega⟩)]
  show (bif decide ((xs.length : Int) > 255) then _ else _) = _
  by_cases hs : 255 < xs.length
  · rw [decide_eq_true (by omega), cond_true, attL_long hs h3 h2, Wc_ok rfl (by rw [e3]; omega) (by rw [e3]; omega) (by omega), Wc_ok (by simp [be_len]) (by rw [e2]; omega) (by rw [e2]; omega) (by simp [be_len]; omega), Wc_ok (by simp [be_len]) (by rw [e4]; omega) (by rw [e4]; omega) (by simp [be_len]; omega)]
    rw [attL_long hs h3 h2] at hx
    simp only [List.length_append, be_len] at hx
    unfold putF
    rw [decide_eq_true rfl, cond_true, decide_eq_true ⟨by simp [be_len], by simp [be_len]; omega, by omega⟩, cond_true, ← List.length_append]
    simp [putLeaf, List.append_assoc]
  · rw [decide_eq_false (by omega), cond_false, attL_short (by omega) h1 h2, Wc_ok rfl (by rw [e1]; omega) (by rw [e1]; omega) (by omega), Wc_ok (by simp [be_len]) (by rw [e2]; omega) (by rw [e2]; omega) (by simp [be_len]; omega), Wc_ok (by simp [be_len]) (by rw [e4]; omega) (by rw [e4]; omega) (by simp [be_len]; omega)]
    rw [attL_short (by omega) h1 h2] at hx
    simp only [List.length_append, be_len] at hx
    unfold putF
    rw [decide_eq_true rfl, cond_true, decide_eq_true ⟨by simp [be_len], by simp [be_len]; omega, by omega⟩, cond_true, ← List.length_append]
    simp [putLeaf, List.append_assoc]
theorem dH_ren2 (a : At) (R U : List SV) (kr ku m : Nat) (es : List SV) : ∀ x, updF [(3, some (.cells 85 [.qs 6 1 0 m, .int .i64 65535, .mp 5])), (4, none), (6, some (.seq 5 es))] (dH a R U kr ku m es).get x =
    if x = 6 then (updF [] (dH a R U kr ku m es).get 4).map (renC (sw 4 6)) else if x = 4 then none else (updF [] (dH a R U kr ku m es).get x).map (renC (sw 4 6))
  | 0 => rfl | 1 => rfl | 2 => rfl | 3 => rfl | 4 => rfl | 5 => rfl | 6 => rfl
  | x + 7 => by
    have h1 : ∀ k, k < 7 → ¬ (x + 7 = k) := fun k hk => by omega
    have h2 : ∀ k, k < 7 → Nat.beq k (x + 7) = false := fun k hk => nb_f (by omega)
    simp only [updF, dH, HpL.get, h1 3 (by omega), h1 4 (by omega), h1 6 (by omega), if_false, h2 0 (by omega), h2 1 (by omega), h2 2 (by omega), h2 3 (by omega), h2 4 (by omega), h2 5 (by omega), cond_false, Option.map_none]
theorem dH_names2 (a : At) (R U : List SV) (kr ku m : Nat) (es : List SV) : ∀ x c, updF [] (dH a R U kr ku m es).get x = some c → 6 ∉ namesC c := by
  intro x c h
  have h : HpL.get (dH a R U kr ku m es) x = some c := h
  have := HpL_get_some _ _ _ h
  simp only [dH, List.mem_cons, Prod.mk.injEq, List.not_mem_nil, or_false] at this
  rcases this with ⟨_, rfl⟩ | ⟨_, rfl⟩ | ⟨_, rfl⟩ | ⟨_, rfl⟩ | ⟨_, rfl⟩ | ⟨_, rfl⟩ <;> simp [namesC, namesL, namesS, dC]
theorem flagR_ok : ∀ r : Nat, (0 ≤ flagR r ∧ flagR r < 256) ∧ (0 ≤ codeR r ∧ codeR r < 256) ∧ (0 ≤ orF (flagR r) ∧ orF (flagR r) < 256)
  | 0 => by decide | 1 => by decide | 2 => by decide | 3 => by decide | 4 => by decide | 5 => by decide | 6 => by decide | 7 => by decide | 8 => by decide
  | r + 9 => by
    have h1 : flagR (r + 9) = 192 := rfl
    have h2 : codeR (r + 9) = 22 := rfl
    rw [h1, h2]; decide
theorem put_all (a : At) (R U : List SV) (kr ku m : Nat) (es : List SV) : ∀ r : Nat, r ≤ 9 → opn κp Try.f20 (pArgs (codeR r) (flagR r) (36 + r)) (dH a R U kr ku m es) = bif dec (OkD ⟨a, R, U, kr, ku, 0, []⟩ ∧ (0 : Nat) = 0 ∧ ([] : List SV) = []) then putTr (flagR r) (codeR r) (valB r a R U) (wrB r a R U) m es else .fail
  | 0, _ => put_t0 a R U kr ku m es | 1, _ => put_t1 a R U kr ku m es | 2, _ => put_t2 a R U kr ku m es | 3, _ => put_t3 a R U kr ku m es | 4, _ => put_t4 a R U kr ku m es
  | 5, _ => put_t5 a R U kr ku m es | 6, _ => put_t6 a R U kr ku m es | 7, _ => put_t7 a R U kr ku m es | 8, _ => put_t8 a R U kr ku m es | 9, _ => put_t9 a R U kr ku m es
  | r + 10, h => by omega
theorem put20_k : Known Try.prog 20 put20_s := known_ren (openKnown pOk Try.func20 rfl) (by
  intro args H v ups h
  unfold put20_s at h
  split at h
  · rename_i c f g
    split at h
    · rename_i d hd
      rw [crun_ite] at h
      cases hc : (decide (36 ≤ g ∧ g ≤ 45 ∧ c = codeR (g - 36) ∧ f = flagR (g - 36)) && dec (OkD d ∧ d.m = d.es.length ∧ (d.es ++ putB (g - 36) d.a d.R d.U).length ≤ 60000)) with
      | false => rw [hc] at h; cases h
      | true =>
        rw [hc, cond_true] at h
        rw [Bool.and_eq_true, decide_eq_true_eq, dec_iff] at hc
        obtain ⟨⟨h1, h2, rfl, rfl⟩, ho, hm, hlen⟩ := hc
        have hr : ∃ r : Nat, g = 36 + r ∧ g - 36 = r ∧ r ≤ 9 := ⟨g - 36, (Nat.add_sub_cancel' h1).symm, rfl, Nat.sub_le_of_le_add h2⟩
        obtain ⟨r, rfl, hr1, hr9⟩ := hr
        rw [hr1] at h hlen ⊢
        rw [dOf_h hd, hm]
        have ht := put_all d.a d.R d.U d.kr d.ku d.es.length d.es r hr9
        have hok : dec (OkD ⟨d.a, d.R, d.U, d.kr, d.ku, 0, []⟩ ∧ (0 : Nat) = 0 ∧ ([] : List SV) = []) = true := dec_iff.2 ⟨⟨ho.a, ho.R, ho.U, ho.kr, ho.ku⟩, rfl, rfl⟩
        rw [hok, cond_true] at ht
        obtain ⟨f1, f2, f3⟩ := flagR_ok r
        cases hw : wrB r d.a d.R d.U with
        | true =>
          left
          have hp : putB r d.a d.R d.U = attL (flagR r) (codeR r) (valB r d.a d.R d.U) := by unfold putB; rw [hw]; rfl
          rw [hp] at h hlen
          rw [putTr_ok hw hlen f1 f2 f3] at ht
          refine ⟨ups, ?_, fun x => rfl⟩
          rw [← h]
          exact congrArg crun ht
        | false =>
          right
          have hp : putB r d.a d.R d.U = [] := by unfold putB; rw [hw]; rfl
          rw [hp] at h hlen
          have ht2 : opn κp Try.f20 (pArgs (codeR r) (flagR r) (36 + r)) (dH d.a d.R d.U d.kr d.ku d.es.length d.es) = .ret (.int .i64 0) [] := by rw [ht, hw]; rfl
          have h' : crun (putLeaf d.es []) = some (v, ups) := h
          unfold putLeaf at h'
          rw [List.append_nil] at h'
          cases h'
          exact ⟨_, [], congrArg crun ht2, 4, 6, by simp [dH], by simp [namesS], dH_names2 _ _ _ _ _ _ _, rfl, dH_ren2 _ _ _ _ _ _ _⟩
    · cases h
  · cases h)
end Go.Proofs.Ytdgnhaacdpmclaa
/- attr.Bytes. -/
namespace Go.Proofs.Ytdgnhaacdpmclaa
open Go.Am
set_option maxRecDepth 100000
noncomputable abbrev κq := tbl [(16, checks_s), (17, encs_s), (18, nw_s), (20, put20_s), (21, out_s)]
theorem qOk : KOk Try.prog κq := tbl_cons checks_k (tbl_cons encs_k (tbl_cons nw_k (tbl_cons put20_k (tbl_cons out_k ok0))))
/-- One row's condition. -/
noncomputable def rowC (r : Nat) (a : At) (R U : List SV) (m : Nat) (es : List SV) (K : Nat → List SV → CTree) : CTree :=
  bif decide (36 ≤ 36 + r ∧ 36 + r ≤ 45 ∧ codeR r = codeR (36 + r - 36) ∧ flagR r = flagR (36 + r - 36)) && dec (OkD ⟨a, R, U, R.length, U.length, m, es⟩ ∧ m = es.length ∧ (es ++ putB (36 + r - 36) a R U).length ≤ 60000) then K (es ++ putB r a R U).length (es ++ putB r a R U) else .fail
noncomputable def rowsC (a : At) (R U : List SV) (K : Nat → List SV → CTree) : CTree :=
  rowC 0 a R U 0 [] fun m es => rowC 1 a R U m es fun m es => rowC 2 a R U m es fun m es => rowC 3 a R U m es fun m es => rowC 4 a R U m es fun m es =>
  rowC 5 a R U m es fun m es => rowC 6 a R U m es fun m es => rowC 7 a R U m es fun m es => rowC 8 a R U m es fun m es => rowC 9 a R U m es K
def outC (m : Nat) (xs : List SV) : CTree := bif decide (m = xs.length ∧ xs.length ≤ 65536) then .ret (.tup [.qs 0 1 0 xs.length, .int .i64 0]) [(0, some (.seq 5 xs))] else .fail
theorem bytes_t (a : At) (r u : List SV) : opn κq Try.f6 [a.v, .psl 47 r, .psl 47 u] [] =
  bif decide (r.length ≤ 1000 ∧ u.length ≤ 1000) then bif chkAll a r u != 0 then .ret (.tup [.nils, .int .i64 (chkAll a r u)]) [] else
  bif okR r then bif okR u then rowsC a (nbs r) (nbs u) outC else .fail else .fail else .fail := by kernel_rfl
end Go.Proofs.Ytdgnhaacdpmclaa
/- Lists by the reference: each by one leaf. -/
namespace Go.Proofs.Ytdgnhaacdpmclaa
open Go.Am
set_option maxRecDepth 100000
theorem okF5 : okF Try.prog [some (5, 1), none] := ⟨fun _ => ⟨by kernel_rfl, by kernel_rfl⟩, trivial⟩
theorem okF5c : okF Try.prog [none, none, some (5, 1)] := ⟨fun _ => ⟨by kernel_rfl, by kernel_rfl⟩, trivial⟩
noncomputable def routes1_s : CSumm := fun args H => match args, H with
  | [.qs 0 1 0 m, .psl 47 l], [(0, .seq 5 es)] => .ite (decide (m = es.length ∧ m + 42 * l.length ≤ 60000) && okR l) (.ret (.qs 1 1 0 (es ++ nbs l).length) [(0, none), (1, some (.seq 5 (es ++ nbs l)))]) .fail
  | _, _ => .fail
theorem ren1 (es : List SV) : ∀ x, updF [(0, none), (1, some (.seq 5 es))] (HpL.get [(0, .seq 5 es)]) x =
    if x = 1 then (updF [] (HpL.get [(0, .seq 5 es)]) 0).map (renC (sw 0 1)) else if x = 0 then none else (updF [] (HpL.get [(0, .seq 5 es)]) x).map (renC (sw 0 1))
  | 0 => rfl | 1 => rfl
  | x + 2 => by
    have h1 : ∀ k, k < 2 → ¬ (x + 2 = k) := fun k hk => by omega
    have h2 : ∀ k, k < 2 → Nat.beq k (x + 2) = false := fun k hk => nb_f (by omega)
    simp only [updF, HpL.get, h1 0 (by omega), h1 1 (by omega), if_false, h2 0 (by omega), cond_false, Option.map_none]
theorem routes1_k : Known Try.prog 28 routes1_s := known_ren routes_k0 (by
  intro args H v ups h
  unfold routes1_s at h
  split at h
  · rename_i m l es
    rw [crun_ite] at h
    cases hc : (decide (m = es.length ∧ m + 42 * l.length ≤ 60000) && okR l) with
    | false => rw [hc] at h; cases h
    | true =>
      rw [hc, cond_true] at h
      rw [Bool.and_eq_true, decide_eq_true_eq] at hc
      obtain ⟨⟨rfl, hl⟩, ho⟩ := hc
      simp only [okR, Bool.and_eq_true, decide_eq_true_eq] at ho
      have ht := routes_tb l es.length es
      have hi : (decide (es.length = es.length) && invR l l.length 0 (es.length + 42 * lft l.length 0)) = true := by
        rw [decide_eq_true rfl, lft0]
        exact invR_iff.2 ⟨by omega, by omega, rfl, by omega, by omega, by rw [lft0]; exact ho.2⟩
      rw [hi, cond_true] at ht
      by_cases h0 : (0 : Int) < l.length
      · left
        rw [decide_eq_true h0, cond_true, lft0, ← List.length_append] at ht
        rw [ht]
        exact ⟨ups, h, fun x => rfl⟩
      · right
        rw [decide_eq_false h0, cond_false] at ht
        have he : nbs l = [] := by
          have : l.length = 0 := by omega
          unfold nbs; rw [this]; rfl
        rw [he, List.append_nil] at h
        cases h
        refine ⟨_, [], congrArg crun ht, 0, 1, by simp, by simp [namesS], ?_, rfl, ren1 es⟩
        intro x c hx
        have := HpL_get_some _ _ _ (show HpL.get [(0, .seq 5 es)] x = some c from hx)
        simp only [List.mem_cons, Prod.mk.injEq, List.not_mem_nil, or_false] at this
        obtain ⟨_, rfl⟩ := this
        simp [namesC]
  · cases h)
def aH (a : At) (m : Nat) (es : List SV) : HpL := [(0, .cells 30 [.int .i64 a.ori, .psl 23 a.path, .int .u32 a.nx, .bool a.hm, .int .u32 a.med, .bool a.hp, .int .u32 a.prf, .bool a.ho, .int .u32 a.orr, .psl 24 a.cl, .psl 72 a.cm, .int .i64 a.tk, .int .u32 a.tl, .int .u32 a.tr, .int .u32 a.tg]), (1, .seq 5 es)]
def aOf : HpL → Option (At × List SV)
  | [(0, .cells 30 [.int .i64 ori, .psl 23 path, .int .u32 nx, .bool hm, .int .u32 med, .bool hp, .int .u32 prf, .bool ho, .int .u32 orr, .psl 24 cl, .psl 72 cm, .int .i64 tk, .int .u32 tl, .int .u32 tr, .int .u32 tg]), (1, .seq 5 es)] => some (⟨ori, path, nx, hm, med, hp, prf, ho, orr, cl, cm, tk, tl, tr, tg⟩, es)
  | _ => none
theorem aOf_h {H : HpL} {a : At} {es : List SV} (h : aOf H = some (a, es)) : H = aH a 0 es := by
  unfold aOf at h
  split at h
  · cases h; rfl
  · cases h
theorem aH_ren (a : At) (m : Nat) (es : List SV) : ∀ x, updF [(1, none), (2, some (.seq 5 es))] (aH a m es).get x =
    if x = 2 then (updF [] (aH a m es).get 1).map (renC (sw 1 2)) else if x = 1 then none else (updF [] (aH a m es).get x).map (renC (sw 1 2))
  | 0 => rfl | 1 => rfl | 2 => rfl
  | x + 3 => by
    have h1 : ∀ k, k < 3 → ¬ (x + 3 = k) := fun k hk => by omega
    have h2 : ∀ k, k < 3 → Nat.beq k (x + 3) = false := fun k hk => nb_f (by omega)
    simp only [updF, aH, HpL.get, h1 2 (by omega), h1 1 (by omega), if_false, h2 0 (by omega), h2 1 (by omega), cond_false, Option.map_none]
/-- A loop that appends to a list, by one leaf. -/
noncomputable def lp1 (c : Int) (f : At → List SV → Int → List SV) (ok : At → List SV → Int → Bool) : CSumm := fun args H => match args with
  | [.ptr 0 0, .int .i64 i, .qs 1 1 0 m] => match aOf H with
    | some (a, es) => .ite (decide (m = es.length) && ok a es i) (.ret (.tup [.int .i64 c, .ptr 0 0, .qs 2 1 0 (es ++ f a es i).length]) [(1, none), (2, some (.seq 5 (es ++ f a es i)))]) .fail
    | none => .fail
  | _ => .fail
theorem lp1_case {c : Int} {f : At → List SV → Int → List SV} {ok : At → List SV → Int → Bool} {args : List SV} {H : HpL} {v : SV} {ups : List (Nat × Option Chunk)} (h : crun (lp1 c f ok args H) = some (v, ups)) :
    ∃ (a : At) (es : List SV) (i : Int), args = [.ptr 0 0, .int .i64 i, .qs 1 1 0 es.length] ∧ H = aH a 0 es ∧ ok a es i = true ∧ v = .tup [.int .i64 c, .ptr 0 0, .qs 2 1 0 (es ++ f a es i).length] ∧ ups = [(1, none), (2, some (.seq 5 (es ++ f a es i)))] := by
  unfold lp1 at h
  split at h
  · rename_i i m
    split at h
    · rename_i a es ha
      rw [crun_ite] at h
      cases hc : (decide (m = es.length) && ok a es i) with
      | false => rw [hc] at h; cases h
      | true =>
        rw [hc] at h
        cases h
        rw [Bool.and_eq_true, decide_eq_true_eq] at hc
        exact ⟨a, es, i, by rw [hc.1], aOf_h ha, hc.2, rfl, rfl⟩
    · cases h
  · cases h
theorem lp1_ren {c : Int} {a : At} {es : List SV} {v : SV} {ups : List (Nat × Option Chunk)} (hv : v = .tup [.int .i64 c, .ptr 0 0, .qs 2 1 0 (es ++ []).length]) (hu : ups = [(1, none), (2, some (.seq 5 (es ++ [])))]) :
    Renamed (aH a 0 es) (.tup [.int .i64 c, .ptr 0 0, .qs 1 1 0 es.length]) [] v ups := by
  subst hv hu
  rw [List.append_nil]
  refine ⟨1, 2, by simp [aH], by simp [namesS, namesL], ?_, rfl, aH_ren a 0 es⟩
  intro x c hx
  have := HpL_get_some _ _ _ (show HpL.get (aH a 0 es) x = some c from hx)
  simp only [aH, List.mem_cons, Prod.mk.injEq, List.not_mem_nil, or_false] at this
  rcases this with ⟨_, rfl⟩ | ⟨_, rfl⟩ <;> simp [namesC, namesL, namesS]
def path1 (a : At) (_ : List SV) (i : Int) : List SV := wds (lft a.path.length i) a.path i
def path1ok (a : At) (es : List SV) (i : Int) : Bool := invW a.path i (es.length + 4 * lft a.path.length i)
noncomputable def e26p1 : LEnt := { e26p with s := lp1 2 path1 path1ok }
theorem path1_valid : ValidL Try.prog e26p1 := loop_ren path_valid (by
  intro args H v ups h
  obtain ⟨a, es, i, rfl, rfl, ho, rfl, rfl⟩ := lp1_case h
  have ht : e26p.s [.ptr 0 0, .int .i64 i, .qs 1 1 0 es.length] (aH a 0 es) = .ite (decide (es.length = es.length) && path1ok a es i) (.ite (decide (i < a.path.length)) (.ret (.tup [.int .i64 2, .ptr 0 0, .qs 2 1 0 (es.length + (path1 a es i).length)]) [(1, none), (2, some (.seq 5 (es ++ path1 a es i)))]) (.ret (.tup [.int .i64 2, .ptr 0 0, .qs 1 1 0 es.length]) [])) .fail := rfl
  rw [ho, decide_eq_true rfl] at ht
  by_cases h0 : i < a.path.length
  · left
    rw [decide_eq_true h0] at ht
    refine ⟨_, congrArg crun ht |>.trans ?_, fun x => rfl⟩
    rw [List.length_append]; rfl
  · right
    rw [decide_eq_false h0] at ht
    refine ⟨_, [], congrArg crun ht, ?_⟩
    have he : path1 a es i = [] := by unfold path1; rw [lft_zero h0]; rfl
    rw [he]; exact lp1_ren rfl rfl)
end Go.Proofs.Ytdgnhaacdpmclaa
/- Clusters and communities by the reference. -/
namespace Go.Proofs.Ytdgnhaacdpmclaa
open Go.Am
set_option maxRecDepth 100000
def clus1 (a : At) (_ : List SV) (i : Int) : List SV := wds (lft a.cl.length i) a.cl i
def clus1ok (a : At) (es : List SV) (i : Int) : Bool := invW a.cl i (es.length + 4 * lft a.cl.length i)
def lp2 (c : Int) (f : At → List SV → Int → List SV) (n : At → Nat) (ok : At → List SV → Int → Bool) : CSumm := fun args H => match args with
  | [.ptr 0 0, .int .i64 i, .qs 1 1 0 m] => match aOf H with
    | some (a, es) => .ite (decide (m = es.length) && ok a es i) (.ite (decide (i < (n a : Int))) (.ret (.tup [.int .i64 c, .ptr 0 0, .qs 2 1 0 (es.length + (f a es i).length)]) [(1, none), (2, some (.seq 5 (es ++ f a es i)))]) (.ret (.tup [.int .i64 c, .ptr 0 0, .qs 1 1 0 m]) [])) .fail
    | none => .fail
  | _ => .fail
def clM : List SV → HpL → Nat
  | [_, .int _ i, _], (0, .cells _ (_ :: _ :: _ :: _ :: _ :: _ :: _ :: _ :: _ :: .psl _ l :: _)) :: _ => lft l.length i
  | _, _ => 0
def cmM : List SV → HpL → Nat
  | [_, .int _ i, _], (0, .cells _ (_ :: _ :: _ :: _ :: _ :: _ :: _ :: _ :: _ :: _ :: .psl _ l :: _)) :: _ => lft l.length i
  | _, _ => 0
noncomputable def c26c : Code := (loopAt 18 body26).getD .skip
noncomputable def e26c : LEnt := { ins := [2, 9, 8], outs := [2, 8], keep := [5, 1], size := 102, code := c26c, s := lp2 4 clus1 (fun a => a.cl.length) clus1ok }
noncomputable def body30 : Code := Try.f30.body.getD .skip
noncomputable def c30 : Code := (loopAt 3 body30).getD .skip
def com1 (a : At) (_ : List SV) (i : Int) : List SV := cmBs (lft a.cm.length i) a.cm i
def com1ok (a : At) (es : List SV) (i : Int) : Bool := invW a.cm i (es.length + 8 * lft a.cm.length i)
noncomputable def e30 : LEnt := { ins := [2, 6, 5], outs := [2, 5], keep := [1], size := 61, code := c30, s := lp2 2 com1 (fun a => a.cm.length) com1ok }
def nextL (c : Int) (N : Nat) (xs : List SV) (l : Nat) (more ok : Bool) (m : Nat) (ys : List SV) : CTree :=
  bif Nat.blt l N then bif decide (m = ys.length) && ok then bif more then .ret (.tup [.int .i64 c, .ptr 0 0, .qs 2 1 0 (ys.length + xs.length)]) [(1, none), (2, some (.seq 5 (ys ++ xs)))]
   else .ret (.tup [.int .i64 c, .ptr 0 0, .qs 2 1 0 m]) [(1, none), (2, some (.seq 5 ys))] else .fail else .fail
theorem round26c (N : Nat) (a : At) (i : Int) (m : Nat) (es : List SV) : loopOnce Try.prog κko ιk (ltab []) true 300 e26c { e26c with s := boundT clM (lp2 4 clus1 (fun a => a.cl.length) clus1ok) N } c26c [.ptr 0 0, .int .i64 i, .qs 1 1 0 m] (aH a 0 es) =
  bif decide (i < a.cl.length) then bif inB i a.cl.length then bif decide (m = es.length ∧ es.length ≤ 100000) then
    nextL 4 N (wds (lft a.cl.length (IntKind.i64.wrap (i + 1))) a.cl (IntKind.i64.wrap (i + 1))) (lft a.cl.length (IntKind.i64.wrap (i + 1))) (decide (IntKind.i64.wrap (i + 1) < a.cl.length)) (invW a.cl (IntKind.i64.wrap (i + 1)) ((es ++ wd a.cl i).length + 4 * lft a.cl.length (IntKind.i64.wrap (i + 1)))) (es.length + 4) (es ++ wd a.cl i)
   else .fail else .fail else .ret (.tup [.int .i64 4, .ptr 0 0, .qs 1 1 0 m]) [] := by kernel_rfl
theorem round30 (N : Nat) (a : At) (i : Int) (m : Nat) (es : List SV) : loopOnce Try.prog κko ιk (ltab []) true 300 e30 { e30 with s := boundT cmM (lp2 2 com1 (fun a => a.cm.length) com1ok) N } c30 [.ptr 0 0, .int .i64 i, .qs 1 1 0 m] (aH a 0 es) =
  bif decide (i < a.cm.length) then bif inB i a.cm.length then bif decide (m = es.length) then bif lenOk (es.length + (cmB a.cm i).length) then
    nextL 2 N (cmBs (lft a.cm.length (IntKind.i64.wrap (i + 1))) a.cm (IntKind.i64.wrap (i + 1))) (lft a.cm.length (IntKind.i64.wrap (i + 1))) (decide (IntKind.i64.wrap (i + 1) < a.cm.length)) (invW a.cm (IntKind.i64.wrap (i + 1)) ((es ++ cmB a.cm i).length + 8 * lft a.cm.length (IntKind.i64.wrap (i + 1)))) (es.length + (cmB a.cm i).length) (es ++ cmB a.cm i)
   else .fail else .fail else .fail else .ret (.tup [.int .i64 2, .ptr 0 0, .qs 1 1 0 m]) [] := by kernel_rfl
theorem nextL_ok {c : Int} {N : Nat} {xs ys : List SV} {l : Nat} {more ok : Bool} {m : Nat} (h1 : l < N) (h2 : ok = true) (hm : m = ys.length) (h3 : more = false → xs = []) :
    nextL c N xs l more ok m ys = .ret (.tup [.int .i64 c, .ptr 0 0, .qs 2 1 0 (ys.length + xs.length)]) [(1, none), (2, some (.seq 5 (ys ++ xs)))] := by
  have hb : Nat.blt l N = true := by rw [Nat.blt_eq]; exact h1
  subst hm h2
  unfold nextL
  rw [hb, decide_eq_true rfl]
  cases more with
  | true => rfl
  | false => rw [h3 rfl]; simp
end Go.Proofs.Ytdgnhaacdpmclaa
/- What the reference announces. -/
namespace Go.Proofs.Ytdgnhaacdpmclaa
open Go.Am
set_option maxRecDepth 100000
theorem lp2_case {c : Int} {f : At → List SV → Int → List SV} {n : At → Nat} {ok : At → List SV → Int → Bool} {args : List SV} {H : HpL} {r : SV × List (Nat × Option Chunk)} (h : crun (lp2 c f n ok args H) = some r) :
    ∃ (a : At) (es : List SV) (i : Int), args = [.ptr 0 0, .int .i64 i, .qs 1 1 0 es.length] ∧ H = aH a 0 es ∧ ok a es i = true ∧
     crun (.ite (decide (i < (n a : Int))) (.ret (.tup [.int .i64 c, .ptr 0 0, .qs 2 1 0 (es.length + (f a es i).length)]) [(1, none), (2, some (.seq 5 (es ++ f a es i)))]) (.ret (.tup [.int .i64 c, .ptr 0 0, .qs 1 1 0 es.length]) [])) = some r := by
  unfold lp2 at h
  split at h
  · rename_i i m
    split at h
    · rename_i a es ha
      rw [crun_ite] at h
      cases hc : (decide (m = es.length) && ok a es i) with
      | false => rw [hc] at h; cases h
      | true =>
        rw [hc] at h
        rw [Bool.and_eq_true, decide_eq_true_eq] at hc
        rw [hc.1] at h
        exact ⟨a, es, i, by rw [hc.1], aOf_h ha, hc.2, h⟩
    · cases h
  · cases h
theorem clus_valid : ValidL Try.prog e26c := loop_valid (κ := κko) (ι := ιk) (T := ltab []) (sp := true) (fuel := 300) (c := c26c) (μ := clM) (openT_ok noNumTry mixTry okk 300 5) mixTry ltab_nil (show fillC (ltab []) c26c = c26c by kernel_rfl) (by
  intro N args H r hb hr
  obtain ⟨a, es, i, rfl, rfl, ho, h⟩ := lp2_case (show crun (lp2 4 clus1 (fun a => a.cl.length) clus1ok args H) = some r from hr)
  obtain ⟨h0, h1, h2, h3⟩ := invW_iff.1 ho
  have hb' : lft a.cl.length i < N + 1 := by
    have : Nat.blt (lft a.cl.length i) (N + 1) = true := hb
    rwa [Nat.blt_eq] at this
  refine (congrArg crun (round26c N a i es.length es)).trans ?_
  rw [← h]
  by_cases hlt : i < a.cl.length
  · have hs := lft_succ hlt
    have hw : IntKind.i64.wrap (i + 1) = i + 1 := w64_id (by omega) (by omega)
    have hin : inB i a.cl.length = true := by unfold inB; simp; omega
    rw [decide_eq_true hlt, hin, hw, cond_true, cond_true, decide_eq_true (show es.length = es.length ∧ es.length ≤ 100000 from ⟨rfl, by omega⟩), cond_true]
    rw [nextL_ok (by omega) (invW_iff.2 ⟨by omega, by omega, h2, by rw [List.length_append, wd_len]; omega⟩) (by rw [List.length_append, wd_len]) (fun hm => by rw [lft_zero (of_decide_eq_false hm)]; rfl)]
    simp only [clus1]
    rw [hs]
    simp [wds, Nat.add_assoc]
    rfl
  · rw [decide_eq_false hlt]; rfl)
theorem com_valid : ValidL Try.prog e30 := loop_valid (κ := κko) (ι := ιk) (T := ltab []) (sp := true) (fuel := 300) (c := c30) (μ := cmM) (openT_ok noNumTry mixTry okk 300 5) mixTry ltab_nil (show fillC (ltab []) c30 = c30 by kernel_rfl) (by
  intro N args H r hb hr
  obtain ⟨a, es, i, rfl, rfl, ho, h⟩ := lp2_case (show crun (lp2 2 com1 (fun a => a.cm.length) com1ok args H) = some r from hr)
  obtain ⟨h0, h1, h2, h3⟩ := invW_iff.1 ho
  have hb' : lft a.cm.length i < N + 1 := by
    have : Nat.blt (lft a.cm.length i) (N + 1) = true := hb
    rwa [Nat.blt_eq] at this
  refine (congrArg crun (round30 N a i es.length es)).trans ?_
  rw [← h]
  by_cases hlt : i < a.cm.length
  · have hs := lft_succ hlt
    have hw : IntKind.i64.wrap (i + 1) = i + 1 := w64_id (by omega) (by omega)
    have hin : inB i a.cm.length = true := by unfold inB; simp; omega
    have hcl : (cmB a.cm i).length = 8 := rfl
    rw [decide_eq_true hlt, hin, hw, cond_true, cond_true, decide_eq_true rfl, cond_true, lenOk_t (by omega), cond_true]
    rw [nextL_ok (by omega) (invW_iff.2 ⟨by omega, by omega, h2, by rw [List.length_append, hcl]; omega⟩) (by rw [List.length_append]) (fun hm => by rw [lft_zero (of_decide_eq_false hm)]; rfl)]
    simp only [com1]
    rw [hs]
    simp [cmBs, Nat.add_assoc]
    rfl
  · rw [decide_eq_false hlt]; rfl)
theorem lp1_of {c : Int} {e : LEnt} {f : At → List SV → Int → List SV} {n : At → Nat} {ok : At → List SV → Int → Bool} (hs : e.s = lp2 c f n ok) (hf : ∀ a es (i : Int), ¬ i < (n a : Int) → f a es i = []) (h : ValidL Try.prog e) : ValidL Try.prog { e with s := lp1 c f ok } := loop_ren h (by
  intro args H v ups h
  obtain ⟨a, es, i, rfl, rfl, ho, rfl, rfl⟩ := lp1_case h
  have ht : e.s [.ptr 0 0, .int .i64 i, .qs 1 1 0 es.length] (aH a 0 es) = .ite (decide (es.length = es.length) && ok a es i) (.ite (decide (i < (n a : Int))) (.ret (.tup [.int .i64 c, .ptr 0 0, .qs 2 1 0 (es.length + (f a es i).length)]) [(1, none), (2, some (.seq 5 (es ++ f a es i)))]) (.ret (.tup [.int .i64 c, .ptr 0 0, .qs 1 1 0 es.length]) [])) .fail := by rw [hs]; rfl
  rw [ho, decide_eq_true rfl] at ht
  by_cases h0 : i < (n a : Int)
  · left
    rw [decide_eq_true h0] at ht
    refine ⟨_, congrArg crun ht |>.trans ?_, fun x => rfl⟩
    rw [List.length_append]; rfl
  · right
    rw [decide_eq_false h0] at ht
    refine ⟨_, [], congrArg crun ht, ?_⟩
    rw [hf a es i h0]; exact lp1_ren rfl rfl)
noncomputable def e26pX : LEnt := { e26p1 with s := inS [none, none, some (5, 1)] e26p1.s }
noncomputable def e26cX : LEnt := { e26c with s := inS [none, none, some (5, 1)] (lp1 4 clus1 clus1ok) }
noncomputable def e30X : LEnt := { e30 with s := inS [none, none, some (5, 1)] (lp1 2 com1 com1ok) }
theorem pathX : ValidL Try.prog e26pX := loop_in path1_valid okF5c
theorem clusX : ValidL Try.prog e26cX := loop_in (lp1_of (e := e26c) rfl (fun a es i h => by show wds (lft a.cl.length i) a.cl i = []; rw [lft_zero h]; rfl) clus_valid) okF5c
theorem comX : ValidL Try.prog e30X := loop_in (lp1_of (e := e30) rfl (fun a es i h => by show cmBs (lft a.cm.length i) a.cm i = []; rw [lft_zero h]; rfl) com_valid) okF5c
noncomputable abbrev κr := tbl [(27, attr2_s), (28, inS [some (5, 1), none] routes1_s), (53, rput_s)]
theorem rOk : KOk Try.prog κr := tbl_cons attr2_k (tbl_cons (known_in routes1_k okF5) (tbl_cons p5_k ok0))
noncomputable abbrev κro := openT Try.prog κr 300 5
noncomputable abbrev ιr : Nat → Bool := fun g => inl κr g && hasBody Try.prog g
noncomputable abbrev T26 : LTab := ltab [("p", e26pX), ("c", e26cX)]
noncomputable def m26 : Code := markC [(6, "p"), (18, "c")] body26
theorem fill26 : Try.f26.body = some (fillC T26 m26) := by kernel_rfl
noncomputable abbrev ann_b : CSumm := bodyCL Try.prog κro ιr T26 true 300 Try.f26 m26
noncomputable abbrev T30 : LTab := ltab [("m", e30X)]
noncomputable def m30 : Code := markC [(3, "m")] body30
theorem fill30 : Try.f30.body = some (fillC T30 m30) := by kernel_rfl
noncomputable abbrev last_b : CSumm := bodyCL Try.prog κro ιr T30 true 300 Try.f30 m30
end Go.Proofs.Ytdgnhaacdpmclaa
/- What the reference announces: the tree. -/
namespace Go.Proofs.Ytdgnhaacdpmclaa
open Go.Am
set_option maxRecDepth 100000
abbrev KT := Nat → List SV → CTree
def stA (f c : Int) (k : Nat) (xs : List SV) (m : Nat) (b : List SV) (K : KT) : CTree :=
  bif decide (m = b.length ∧ k = xs.length ∧ b.length + xs.length ≤ 90000) then K (b.length + (attL f c xs).length) (b ++ attL f c xs) else .fail
def optA (h : Bool) (f c n : Int) (m : Nat) (b : List SV) (K : KT) : CTree := bif h then stA f c 4 (be n 4) m b K else K m b
def lpA (ok : Bool) (m : Nat) (es xs : List SV) (K : KT) : CTree := bif decide (m = es.length) && ok then K (es ++ xs).length (es ++ xs) else .fail
def retA (m : Nat) (b : List SV) : CTree := .ret (.qs 0 1 0 m) [(0, some (.seq 5 b))]
def nextA (a : At) : List SV := [.int .u8 0, .int .u8 25, .int .u8 70, .int .u8 4] ++ be (w6 a.nx) 4 ++ [.int .u8 0]
noncomputable def annK2 (a : At) (l : List SV) : KT := fun m b => bif decide (9 = (nextA a).length ∧ 9 + 42 * l.length ≤ 60000) && okR l then stA 128 14 (nextA a ++ nbs l).length (nextA a ++ nbs l) m b retA else .fail
noncomputable def annK1 (a : At) (l : List SV) : KT := fun k xs =>
  stA 64 2 k xs 4 (attL 64 1 [.int .u8 (IntKind.u8.wrap a.ori)]) fun m b => optA a.hm 128 4 (w6 a.med) m b fun m b => optA a.hp 64 5 (w6 a.prf) m b fun m b => optA a.ho 128 9 (w6 a.orr) m b fun m b =>
    lpA (clus1ok a [] 0) 0 [] (clus1 a [] 0) fun k cs => bif decide ((k : Int) > 0) then stA 128 10 k cs m b (annK2 a l) else annK2 a l m b
theorem ann_t (a : At) (l : List SV) : ann_b [a.v, .psl 47 l] [] =
  bif decide ((a.path.length : Int) > 0) then lpA (path1ok a [.int .u8 2, .int .u8 (IntKind.u8.wrap a.path.length)] 0) 2 [.int .u8 2, .int .u8 (IntKind.u8.wrap a.path.length)] (path1 a [.int .u8 2, .int .u8 (IntKind.u8.wrap a.path.length)] 0) (annK1 a l)
  else lpA (path1ok a [] 0) 0 [] (path1 a [] 0) (annK1 a l) := by kernel_rfl
end Go.Proofs.Ytdgnhaacdpmclaa
/- The reference's last attributes. -/
namespace Go.Proofs.Ytdgnhaacdpmclaa
open Go.Am
set_option maxRecDepth 100000
def retL (m : Nat) (b : List SV) : CTree := .ret (.qs 1 1 0 m) [(0, none), (1, some (.seq 5 b))]
def tunR (a : At) : List SV := [.int .u8 0, .int .u8 (IntKind.u8.wrap a.tk)] ++ be (w6 a.tl) 3 ++ be (w6 a.tr) 4
def lastK (a : At) (same : CTree) : KT := fun m b => bif a.tk == 0 then same else bif a.tk == 3 then stA 192 22 13 (tunR a ++ be (w6 a.tg) 4) m b retL else stA 192 22 9 (tunR a) m b retL
theorem last_t (a : At) (m : Nat) (es : List SV) : last_b [a.v, .qs 0 1 0 m] [(0, .seq 5 es)] =
  lpA (com1ok a [] 0) 0 [] (com1 a [] 0) fun k cs => bif decide ((k : Int) > 0) then stA 192 16 k cs m es (fun m b => lastK a (retL m b) m b) else lastK a (.ret (.qs 0 1 0 m) []) m es := by kernel_rfl
end Go.Proofs.Ytdgnhaacdpmclaa
