/- AttrEnd: its loop. -/
import Derived.Test.YtdgnhaacdpmclaaGreatPart21
import Derived.Test.YtdgnhaacdpmclaaGreatPart22
import Derived.Test.YtdgnhaacdpmclaaGreatPart23
set_option linter.unusedVariables false
set_option linter.unusedSimpArgs false
namespace Go.Proofs.YtdgnhaacdpmclaaGreat
open Go.Am
set_option maxRecDepth 100000
noncomputable def bytesP_s : CSumm := fun args H => match args, H with
 | [x, .psl 49 r, .psl 49 u], [] => match atOf x with
  | some a => .ite (dec (Fit a r u ∧ chkAll a r u = 0)) (.ret (.tup [.psl 5 (allB a (nbs r) (nbs u)), .int .i64 0]) []) .fail
  | none => .fail
 | _, _ => .fail
theorem bytesP_k : Known Tryz.prog 14 bytesP_s := known_told bytesZ_k (by
 intro args H v ups h
 unfold bytesP_s at h
 split at h
 · rename_i x r u
   split at h
   · rename_i a ha
     rw [crun_ite] at h
     cases hc : dec (Fit a r u ∧ chkAll a r u = 0) with
     | false => rw [hc] at h; cases h
     | true =>
      rw [hc] at h
      cases h
      refine ⟨.tup [.qs 0 1 0 (allB a (nbs r) (nbs u)).length, .int .i64 0], [(0, some (.seq 5 (allB a (nbs r) (nbs u))))], ?_, .inl ⟨0, 5, allB a (nbs r) (nbs u), rfl, .tup (.cons (.qs rfl) .rfl'), fun x c' hx => by simp [updF, HpL.get] at hx⟩⟩
      unfold bytesZ_s
      simp only [ha]
      rw [crun_ite, hc]; rfl
   · cases h
 · cases h)
noncomputable def body6 : Code := Tryz.f6.body.getD .skip
noncomputable def c6 : Code := (loopAt 11 body6).getD .skip
def enH (ps W V : List SV) : HpL := [(0, .seq 22 ps), (1, .seq 5 W), (2, .seq 5 V)]
def p14 (c : Int) : Bool := c != 14
def p2b (c : Int) : Bool := decide (c > 2)
def enOk (n w v : Nat) (i : Int) (ps W V : List SV) : Prop := n = ps.length ∧ w = W.length ∧ v = V.length ∧ 0 ≤ i ∧ i ≤ n ∧ n ≤ 1000 ∧ (∀ x ∈ ps, 2 ≤ (asL x).length ∧ (asL x).length ≤ 100000) ∧ W.length + 100000 * (n - i.toNat) ≤ 200000000 ∧ V.length + 100000 * (n - i.toNat) ≤ 200000000
noncomputable def enR (W V : List SV) : CTree := .ret (.tup [.int .i64 2, .qs 3 1 0 W.length, .qs 4 1 0 V.length]) [(1, none), (2, none), (3, some (.seq 5 W)), (4, some (.seq 5 V))]
noncomputable def en_s : CSumm := fun args H => match args, H with
 | [.qs 0 1 0 n, .qs 1 1 0 w, .qs 2 1 0 v, .int .i64 i], [(0, .seq 22 ps), (1, .seq 5 W), (2, .seq 5 V)] => .ite (dec (enOk n w v i ps W V)) (enR (W ++ fP p14 (ps.drop i.toNat)) (V ++ fP p2b (ps.drop i.toNat))) .fail
 | _, _ => .fail
def enM : List SV → HpL → Nat
 | [.qs _ _ _ n, _, _, .int _ i], _ => n - i.toNat
 | _, _ => 0
noncomputable def e6 : LEnt := { ins := [9, 10, 11, 12], outs := [10, 11], keep := [2], size := 126, code := c6, s := en_s }
end Go.Proofs.YtdgnhaacdpmclaaGreat
/- AttrEnd: its loop, valid. -/
namespace Go.Proofs.YtdgnhaacdpmclaaGreat
open Go.Am
set_option maxRecDepth 100000
noncomputable def elC (n : Nat) (ps : List SV) (i : Int) (K : List SV → CTree) : CTree := bif inB i n then bif decide (0 + i.toNat < ps.length) then K (asL (ps.getD (0 + i.toNat) .junk)) else .fail else .fail
noncomputable def apC (w : Nat) (W p : List SV) (K : Nat → List SV → CTree) : CTree :=
 bif decide (w = W.length) then bif decide (W.length + p.length ≤ 9223372036854775807) && decide ((W.length + p.length) * Tryz.prog.types[5].bytes ≤ 140737488355328) then K (W.length + p.length) (W ++ p) else .fail else .fail
noncomputable def enT (o : Bool) (N n : Nat) (ps : List SV) (i : Int) (w : Nat) (W : List SV) (v : Nat) (V : List SV) : CTree :=
 bif Nat.blt (n - (w64 (i + 1)).toNat) N then bif dec (enOk n w v (w64 (i + 1)) ps W V) then
  .ret (.tup [.int .i64 2, .qs 3 1 0 (W ++ fP p14 (ps.drop (w64 (i + 1)).toNat)).length, .qs 4 1 0 (V ++ fP p2b (ps.drop (w64 (i + 1)).toNat)).length])
   ((bif o then [(2, none), (1, none)] else [(1, none), (2, none)]) ++ [(3, some (.seq 5 (W ++ fP p14 (ps.drop (w64 (i + 1)).toNat)))), (4, some (.seq 5 (V ++ fP p2b (ps.drop (w64 (i + 1)).toNat))))]) else .fail else .fail
noncomputable def enV (o : Bool) (N n : Nat) (ps : List SV) (i : Int) (v : Nat) (V : List SV) (w : Nat) (W : List SV) : CTree :=
 elC n ps i fun p => bif inB 1 p.length then bif p2b (dg p 1) then elC n ps i fun q => apC v V q fun v' V' => enT o N n ps i w W v' V' else enT true N n ps i w W v V else .fail
theorem en_t (N n w v : Nat) (ps W V : List SV) (i : Int) : loopOnce Tryz.prog (openT Tryz.prog (tbl []) 300 5) (fun _ => false) (ltab []) true 300 e6 { e6 with s := boundT enM en_s N } c6 [.qs 0 1 0 n, .qs 1 1 0 w, .qs 2 1 0 v, .int .i64 i] (enH ps W V) =
 bif decide (i < n) then elC n ps i fun p => bif inB 1 p.length then bif p14 (dg p 1) then elC n ps i fun q => apC w W q fun w' W' => enV true N n ps i v V w' W' else enV false N n ps i v V w W else .fail
 else .ret (.tup [.int .i64 2, .qs 1 1 0 w, .qs 2 1 0 v]) [] := by kernel_rfl
theorem inB_ok {i : Int} {n : Nat} (h0 : 0 ≤ i) (h1 : i < n) : inB i n = true := by unfold inB; rw [decide_eq_true h0, decide_eq_true h1]; rfl
theorem elC_ok {n : Nat} {ps : List SV} {i : Int} (hn : n = ps.length) (h0 : 0 ≤ i) (h1 : i < n) (K : List SV → CTree) : elC n ps i K = K (asL (ps.getD i.toNat .junk)) := by
 unfold elC
 rw [inB_ok h0 h1, cond_true, Nat.zero_add, decide_eq_true (show i.toNat < ps.length by omega), cond_true]
theorem apC_ok {w : Nat} {W p : List SV} (hw : w = W.length) (h : W.length + p.length ≤ 300000000) (K : Nat → List SV → CTree) : apC w W p K = K (W ++ p).length (W ++ p) := by
 unfold apC
 rw [decide_eq_true hw, cond_true, types5, decide_eq_true (show W.length + p.length ≤ 9223372036854775807 by omega), decide_eq_true (show (W.length + p.length) * 1 ≤ 140737488355328 by omega), Bool.and_self, cond_true, List.length_append]
theorem fP_drop (p : Int → Bool) {ps : List SV} {i : Nat} (h : i < ps.length) : fP p (ps.drop i) = (bif p (dg (asL (ps.getD i .junk)) 1) then asL (ps.getD i .junk) else []) ++ fP p (ps.drop (i + 1)) := by
 rw [List.drop_eq_getElem_cons h, fP, List.getD_eq_getElem?_getD, List.getElem?_eq_getElem h]; rfl
theorem enR_same {ps W V X Y : List SV} (o : Bool) : ∀ x, updF [(1, none), (2, none), (3, some (.seq 5 X)), (4, some (.seq 5 Y))] (enH ps W V).get x = updF ((bif o then [(2, none), (1, none)] else [(1, none), (2, none)]) ++ [(3, some (.seq 5 X)), (4, some (.seq 5 Y))]) (enH ps W V).get x := by
 intro x
 cases o with
 | false => rfl
 | true =>
  simp only [cond_true, List.cons_append, List.nil_append, updF]
  by_cases h1 : x = 1
  · subst h1; rfl
  · rw [if_neg h1, if_neg h1]
theorem en_no {ps W V : List SV} {k : Nat} : ∀ x c, (enH ps W V).get x = some c → k ∉ namesC c := by
 intro x c hx
 have := HpL_get_some _ _ _ hx
 simp only [enH, List.mem_cons, Prod.mk.injEq, List.not_mem_nil, or_false] at this
 rcases this with ⟨_, rfl⟩ | ⟨_, rfl⟩ | ⟨_, rfl⟩ <;> simp [namesC]
theorem en_ren1 {ps W V : List SV} {w v : Nat} : Renamed (enH ps W V) (.tup [.int .i64 2, .qs 1 1 0 w, .qs 2 1 0 v]) [] (.tup [.int .i64 2, .qs 3 1 0 w, .qs 2 1 0 v]) [(1, none), (3, some (.seq 5 W))] := by
 refine ⟨1, 3, by simp [enH], by simp [namesS, namesL], fun x c hx => en_no x c hx, rfl, fun x => ?_⟩
 match x with
 | 0 => rfl
 | 1 => rfl
 | 2 => rfl
 | 3 => rfl
 | x + 4 =>
  have h1 : ∀ k, k < 4 → ¬ (x + 4 = k) := fun k hk => by omega
  have h2 : ∀ k, k < 4 → Nat.beq k (x + 4) = false := fun k hk => nb_f (by omega)
  simp only [updF, enH, HpL.get, h1 3 (by omega), h1 1 (by omega), if_false, h2 0 (by omega), h2 1 (by omega), h2 2 (by omega), cond_false, Option.map_none]
theorem en_ren2 {ps W V : List SV} {w v : Nat} : Renamed (enH ps W V) (.tup [.int .i64 2, .qs 3 1 0 w, .qs 2 1 0 v]) [(1, none), (3, some (.seq 5 W))] (.tup [.int .i64 2, .qs 3 1 0 w, .qs 4 1 0 v]) [(1, none), (2, none), (3, some (.seq 5 W)), (4, some (.seq 5 V))] := by
 refine ⟨2, 4, by simp [enH], by simp [namesS, namesL], fun x c hx => ?_, rfl, fun x => ?_⟩
 · simp only [updF] at hx
   by_cases h3 : x = 3
   · rw [if_pos h3] at hx; cases hx; simp [namesC]
   · rw [if_neg h3] at hx
     by_cases h1 : x = 1
     · rw [if_pos h1] at hx; cases hx
     · rw [if_neg h1] at hx; exact en_no x c hx
 match x with
 | 0 => rfl
 | 1 => rfl
 | 2 => rfl
 | 3 => rfl
 | 4 => rfl
 | x + 5 =>
  have h1 : ∀ k, k < 5 → ¬ (x + 5 = k) := fun k hk => by omega
  have h2 : ∀ k, k < 5 → Nat.beq k (x + 5) = false := fun k hk => nb_f (by omega)
  simp only [updF, enH, HpL.get, h1 4 (by omega), h1 3 (by omega), h1 2 (by omega), h1 1 (by omega), if_false, h2 0 (by omega), h2 1 (by omega), h2 2 (by omega), cond_false, Option.map_none]
theorem enT_ok {o : Bool} {N n : Nat} {ps : List SV} {i : Int} {w : Nat} {W : List SV} {v : Nat} {V : List SV} (hN : n - i.toNat < N + 1) (hi : i < n) (h0 : 0 ≤ i) (hn : n ≤ 1000) (h : enOk n w v (i + 1) ps W V) :
  enT o N n ps i w W v V = .ret (.tup [.int .i64 2, .qs 3 1 0 (W ++ fP p14 (ps.drop (i.toNat + 1))).length, .qs 4 1 0 (V ++ fP p2b (ps.drop (i.toNat + 1))).length])
   ((bif o then [(2, none), (1, none)] else [(1, none), (2, none)]) ++ [(3, some (.seq 5 (W ++ fP p14 (ps.drop (i.toNat + 1))))), (4, some (.seq 5 (V ++ fP p2b (ps.drop (i.toNat + 1)))))]) := by
 unfold enT
 rw [show w64 (i + 1) = i + 1 from w64_id (by omega) (by omega), dec_iff.2 h, show Nat.blt (n - (i + 1).toNat) N = true by rw [Nat.blt_eq]; omega, cond_true, cond_true, show (i + 1).toNat = i.toNat + 1 by omega]
theorem en_valid : ValidL Tryz.prog e6 := loop_valid5 (T := ltab []) (sp := true) (fuel := 300) (c := c6) (μ := enM) mixTry ltab_nil (show fillC (ltab []) c6 = c6 by kernel_rfl) (by
 intro N args H v' ups' hbt h
 unfold e6 en_s at h
 simp only [] at h
 split at h
 · rename_i n w v i ps W V
   rw [crun_ite] at h
   cases hc : dec (enOk n w v i ps W V) with
   | false => rw [hc] at h; cases h
   | true =>
    rw [hc, cond_true] at h
    obtain ⟨rfl, rfl, rfl, h0, h1, hm, hp, hW, hV⟩ := dec_iff.1 hc
    refine ⟨openT Tryz.prog (tbl []) 300 5, fun _ => false, openT_ok noNumTry mixTry ok0 300 5, ?_⟩
    have ht := en_t N ps.length W.length V.length ps W V i
    have hN : Nat.blt (ps.length - i.toNat) (N + 1) = true := hbt
    rw [Nat.blt_eq] at hN
    by_cases hi : i < ps.length
    · obtain ⟨q1, q2⟩ := hp _ (getD_mem (show i.toNat < ps.length by omega))
      have hB : inB 1 (asL (ps.getD i.toNat .junk)).length = true := inB_ok (by omega) (by omega)
      rw [fP_drop p14 (show i.toNat < ps.length by omega), fP_drop p2b (show i.toNat < ps.length by omega)] at h
      rw [decide_eq_true hi, cond_true, elC_ok rfl h0 hi, hB, cond_true, elC_ok rfl h0 hi] at ht
      have el := fun K => elC_ok (n := ps.length) (ps := ps) rfl h0 hi K
      generalize asL (ps.getD i.toNat .junk) = q at *
      have nx : ∀ W2 V2 : List SV, W2.length ≤ W.length + q.length → V2.length ≤ V.length + q.length → enOk ps.length W2.length V2.length (i + 1) ps W2 V2 := fun W2 V2 h2 h3 => ⟨rfl, rfl, rfl, by omega, by omega, hm, hp, by omega, by omega⟩
      have e14 := fun K => apC_ok (w := W.length) (W := W) (p := q) rfl (by omega) K
      have e2 := fun K => apC_ok (w := V.length) (W := V) (p := q) rfl (by omega) K
      unfold enR at h
      cases c14 : p14 (dg q 1) with
      | true =>
       rw [c14, cond_true, e14] at ht
       unfold enV at ht
       rw [el, hB, cond_true] at ht
       rw [c14, cond_true, ← List.append_assoc] at h
       cases c2 : p2b (dg q 1) with
       | true =>
        rw [c2, cond_true, el, e2, enT_ok hN hi h0 hm (nx _ _ (by simp) (by simp))] at ht
        rw [c2, cond_true, ← List.append_assoc] at h
        cases h
        exact ⟨_, _, congrArg crun ht, .same (enR_same true)⟩
       | false =>
        rw [c2, cond_false, enT_ok hN hi h0 hm (nx _ _ (by simp) (by simp))] at ht
        rw [c2, cond_false, List.nil_append] at h
        cases h
        exact ⟨_, _, congrArg crun ht, .same (enR_same true)⟩
      | false =>
       rw [c14, cond_false] at ht
       unfold enV at ht
       rw [el, hB, cond_true] at ht
       rw [c14, cond_false, List.nil_append] at h
       cases c2 : p2b (dg q 1) with
       | true =>
        rw [c2, cond_true, el, e2, enT_ok hN hi h0 hm (nx _ _ (by simp) (by simp))] at ht
        rw [c2, cond_true, ← List.append_assoc] at h
        cases h
        exact ⟨_, _, congrArg crun ht, .same (enR_same false)⟩
       | false =>
        rw [c2, cond_false, enT_ok hN hi h0 hm (nx _ _ (by simp) (by simp))] at ht
        rw [c2, cond_false, List.nil_append] at h
        cases h
        exact ⟨_, _, congrArg crun ht, .same (enR_same true)⟩
    · rw [decide_eq_false hi, cond_false] at ht
      rw [List.drop_of_length_le (show ps.length ≤ i.toNat by omega)] at h
      unfold fP enR at h
      rw [List.append_nil, List.append_nil] at h
      cases h
      exact ⟨_, _, congrArg crun ht, (ChainL.ren en_ren1).trans (ChainL.ren en_ren2)⟩
 · cases h)
end Go.Proofs.YtdgnhaacdpmclaaGreat
/- AttrEnd: the law's trees. -/
namespace Go.Proofs.YtdgnhaacdpmclaaGreat
open Go.Am
set_option maxRecDepth 100000
noncomputable abbrev κend (s : CSumm) := tbl [(7, lives_s), (14, s), (15, split_s), (9, aread_s), (12, same12_s), (17, azero_s)]
theorem endOk {s : CSumm} (h : Known Tryz.prog 14 s) : KOk Tryz.prog (κend s) := tbl_cons lives_k (tbl_cons h (tbl_cons split_k (tbl_cons aread_k (tbl_cons same12_k (tbl_cons azero_k ok0)))))
noncomputable def e6i : LEnt := { e6 with s := inS [none, some (5, 1), some (5, 1), none] en_s }
theorem en_in : ValidL Tryz.prog e6i := loop_in en_valid (fs := [none, some (5, 1), some (5, 1), none]) ⟨fun _ => ⟨Tryz.underlying5, by kernel_rfl⟩, fun _ => ⟨Tryz.underlying5, by kernel_rfl⟩, trivial⟩
noncomputable abbrev T6 : LTab := ltab [("e", e6i)]
noncomputable abbrev m6 : Code := markC [(11, "e")] body6
noncomputable def law6_b (s : CSumm) : CSumm := bodyCL Tryz.prog (openT Tryz.prog (κend s) 300 5) (fun g => inl (κend s) g && hasBody Tryz.prog g) T6 true 300 Tryz.f6 m6
theorem law6_k0 {s : CSumm} (h : Known Tryz.prog 14 s) : Known Tryz.prog 6 (law6_b s) := ⟨⟨Tryz.f6, Tryz.func6, noNum_at noNumTry Tryz.func6, rfl⟩, bodyL_valid (openT_ok noNumTry mixTry (endOk h) 300 5) mixTry (ltab_cons en_in ltab_nil) Tryz.func6 (show Tryz.f6.body = some (fillC T6 m6) by kernel_rfl)⟩
theorem end_n (a : At) (r u : List SV) : law6_b bytesN_s [a.v, .psl 49 r, .psl 49 u] [] = bif (bif !lightB a r u then true else (r.length : Int) == 0) then .ret (.bool true) [] else bif dec (Fit a r u ∧ chkAll a r u ≠ 0) then
 (bif chkAll a r u != 0 then .ret (.bool true) [] else .fail) else .fail := by kernel_rfl
noncomputable def endF (u : List SV) (k : Nat) (q g : Int × Int × Ds) : CTree :=
 bif (q.1 == 0 && q.2.1 == 0) then bif azero (atD q.2.2) then bif (q.2.2.rch.length : Int) == 0 then bif dec (q.2.2.unr = u ∧ q.2.2.unr.length ≤ 100000) then
  bif (g.1 == 17 && g.2.1 == k) then bif azero (atD g.2.2) then .ret (.bool (w64 (g.2.2.rch.length + g.2.2.unr.length) == 0)) [] else .ret (.bool false) [] else .ret (.bool false) []
 else .fail else .ret (.bool false) [] else .ret (.bool false) [] else .ret (.bool false) []
noncomputable def endK (u B : List SV) (L W V : List SV) : CTree :=
 bif dec (splG B 0 = true ∧ byl B ∧ B.length ≤ 100000 ∧ 3 < B.length) then bif dec (enOk L.length 0 0 0 L [] []) then
  bif dec (byl W ∧ W.length = W.length ∧ W.length ≤ 1000000) then bif dec (byl V ∧ V.length = V.length ∧ V.length ≤ 1000000) then endF u V.length (rdQ W W.length) (rdQ V V.length) else .fail else .fail else .fail else .fail
theorem end_z (a : At) (r u : List SV) : law6_b bytesP_s [a.v, .psl 49 r, .psl 49 u] [] = bif (bif !lightB a r u then true else (r.length : Int) == 0) then .ret (.bool true) [] else bif dec (Fit a r u ∧ chkAll a r u = 0) then
 endK u (allB a (nbs r) (nbs u)) (splL (allB a (nbs r) (nbs u)) 0) ([] ++ fP p14 ((splL (allB a (nbs r) (nbs u)) 0).drop (0 : Int).toNat)) ([] ++ fP p2b ((splL (allB a (nbs r) (nbs u)) 0).drop (0 : Int).toNat)) else .fail := by kernel_rfl
end Go.Proofs.YtdgnhaacdpmclaaGreat
/- The laws about attributes: what their rows share. -/
namespace Go.Proofs.YtdgnhaacdpmclaaGreat
open Go.Am Go.ChangeShapes Go.WideShapes Go.ChangeAt Go.RowKit Go.Joins
set_option maxRecDepth 100000
theorem Tryz.own : ownKnob Tryz.prog.godebug = none := by kernel_rfl
theorem laidTryz : laidOutB Tryz.prog = true := by kernel_rfl
theorem mapsTryz : mapsRowed Tryz.prog = true := by kernel_rfl
theorem fullTryz : ((List.range Tryz.prog.types.size).all fun t => match Tryz.prog.underlying t with | some (.slice e) => decide (0 < Tryz.prog.cellsOf e) | _ => true) = true := by kernel_rfl
theorem light_len {a : At} {r u : List SV} (h : lightB a r u = true) : r.length ≤ 20 ∧ u.length ≤ 20 := by
 have hb : ∀ x y : Bool, (bif x then y else false) = (x && y) := by decide
 unfold lightB at h
 simp only [hb, Bool.and_eq_true, decide_eq_true_eq] at h
 obtain ⟨⟨⟨⟨h1, h2⟩, h3⟩, h4⟩, h5⟩ := h
 omega
end Go.Proofs.YtdgnhaacdpmclaaGreat
/- 'AttrEnd' answers true, whatever attributes and routes it is handed. No condition. -/
namespace Go.Proofs.YtdgnhaacdpmclaaGreat
open Go.Am Go.ChangeShapes Go.WideShapes Go.ChangeAt Go.RowKit Go.Joins
set_option maxRecDepth 100000
theorem rowsB_byl {a : At} (hm : shb a.cm) {R U : List SV} (hR : byl R) (hU : byl U) : ∀ ks : List Nat, (∀ k ∈ ks, k ≤ 9) → byl (rowsB a R U ks)
 | [], _ => byl_nil
 | k :: ks, h => byl_app (putB_byl hm hR hU (h k (by simp))) (rowsB_byl hm hR hU ks (fun j hj => h j (by simp [hj])))
theorem rowsB_len {a : At} {R U : List SV} (hv : ∀ r, (valB r a R U).length ≤ 65535) : ∀ ks : List Nat, (rowsB a R U ks).length ≤ 65539 * ks.length
 | [] => by simp [rowsB]
 | k :: ks => by
  have h1 := rowsB_len hv ks
  have h2 := putB_len k a R U
  have h3 := hv k
  rw [rowsB, List.length_append, List.length_cons]
  omega
theorem all_gt (a : At) (R U : List SV) : 3 < (allB a R U).length := by
 have hl : (putB 0 a R U).length + (putB 7 a R U).length ≤ (allB a R U).length := by
  unfold allB; simp only [List.length_append, List.length_nil]; omega
 by_cases hR : (R.length : Int) > 0
 · have hw : wrB 0 a R U = true := decide_eq_true hR
   have : putB 0 a R U = atB (flagR 0) (codeR 0) (valB 0 a R U) := by unfold putB; rw [hw]; rfl
   have h2 := atB_ge (flagR 0) (codeR 0) (valB 0 a R U)
   have h3 : (valB 0 a R U).length = 1 := be_len _ _
   rw [← this] at h2
   omega
 · have hw : wrB 7 a R U = true := by
     show (bif decide ((U.length : Int) > 0) then true else (R.length : Int) == 0) = true
     rw [show ((R.length : Int) == 0) = true by rw [beq_iff_eq]; omega]
     cases decide ((U.length : Int) > 0) <;> rfl
   have : putB 7 a R U = atB (flagR 7) (codeR 7) (valB 7 a R U) := by unfold putB; rw [hw]; rfl
   have h2 := atB_ge (flagR 7) (codeR 7) (valB 7 a R U)
   have h3 : 1 ≤ (valB 7 a R U).length := by show 1 ≤ (unreachB U).length; simp [unreachB, fam, be_len]; omega
   rw [← this] at h2
   omega
theorem wk_mem {a : At} {R U : List SV} {x : SV} (hx : x ∈ (wk a R U).map (pcK a R U)) : ∃ k, k ≤ 9 ∧ wrB k a R U = true ∧ x = pcK a R U k := by
 obtain ⟨k, hk, rfl⟩ := List.mem_map.1 hx
 obtain ⟨h1, h2⟩ := List.mem_filter.1 hk
 exact ⟨k, (show ∀ k ∈ allK, k ≤ 9 by decide) k h1, h2, rfl⟩
theorem wk_len (a : At) (R U : List SV) : (wk a R U).length ≤ 10 := List.length_filter_le _ _
theorem pc_len {a : At} {R U : List SV} (hv : ∀ r, (valB r a R U).length ≤ 65535) {x : SV} (hx : x ∈ (wk a R U).map (pcK a R U)) : 2 ≤ (asL x).length ∧ (asL x).length ≤ 100000 := by
 obtain ⟨k, hk, hw, rfl⟩ := wk_mem hx
 show 2 ≤ (putB k a R U).length ∧ (putB k a R U).length ≤ 100000
 have h1 := putB_len k a R U
 have h2 := hv k
 have : putB k a R U = atB (flagR k) (codeR k) (valB k a R U) := by unfold putB; rw [hw]; rfl
 have h3 := atB_ge (flagR k) (codeR k) (valB k a R U)
 rw [← this] at h3
 omega
theorem end_ok {a : At} {r u : List SV} (h : Vd a r u) (lr : r.length ≤ 20) (lu : u.length ≤ 20) (hn : 0 < r.length) : endK u (allB a (nbs r) (nbs u)) (splL (allB a (nbs r) (nbs u)) 0) ([] ++ fP p14 ((splL (allB a (nbs r) (nbs u)) 0).drop (0 : Int).toNat)) ([] ++ fP p2b ((splL (allB a (nbs r) (nbs u)) 0).drop (0 : Int).toNat)) = .ret (.bool true) [] := by
 have hv := h.vl lr lu
 obtain ⟨s1, s2⟩ := spl_all hv
 have hal := all_le h lr lu
 have hW : fP p14 ((wk a (nbs r) (nbs u)).map (pcK a (nbs r) (nbs u))) = rowsB a (nbs r) (nbs u) [0, 1, 2, 3, 4, 5, 7, 8, 9] := fP_rows p14 allK
 have hV : fP p2b ((wk a (nbs r) (nbs u)).map (pcK a (nbs r) (nbs u))) = rowsB a (nbs r) (nbs u) [2, 3, 4, 5, 6, 7, 8, 9] := fP_rows p2b allK
 have hlen := wk_len a (nbs r) (nbs u)
 have l1 := rowsB_len hv [0, 1, 2, 3, 4, 5, 7, 8, 9]
 have l2 := rowsB_len hv [2, 3, 4, 5, 6, 7, 8, 9]
 simp only [List.length_cons, List.length_nil] at l1 l2
 unfold endK
 rw [dec_iff.2 ⟨s1, h.byl, by omega, all_gt _ _ _⟩, cond_true, s2, dec_iff.2 ⟨rfl, rfl, rfl, by omega, by omega, by rw [List.length_map]; omega, fun x hx => pc_len hv hx, by rw [List.length_map]; simp; omega, by rw [List.length_map]; simp; omega⟩, cond_true,
  show ((wk a (nbs r) (nbs u)).map (pcK a (nbs r) (nbs u))).drop (0 : Int).toNat = (wk a (nbs r) (nbs u)).map (pcK a (nbs r) (nbs u)) from rfl, List.nil_append, List.nil_append, hW, hV,
  dec_iff.2 ⟨rowsB_byl h.mb (nbs_byl h.gr) (nbs_byl h.gu) _ (by decide), rfl, by omega⟩, cond_true, dec_iff.2 ⟨rowsB_byl h.mb (nbs_byl h.gr) (nbs_byl h.gu) _ (by decide), rfl, by omega⟩, cond_true, h.without lr lu, h.bare lr lu hn]
 unfold endF
 rw [show ((0 : Int) == 0 && (0 : Int) == 0) = true from rfl, cond_true, show azero (atD { dI0 with unr := u }) = true from rfl, cond_true, show ((({ dI0 with unr := u } : Ds).rch.length : Int) == 0) = true from rfl, cond_true, dec_iff.2 ⟨rfl, by show u.length ≤ _; omega⟩, cond_true, beq_self_eq_true, beq_self_eq_true]
 rfl
noncomputable def law6_s : CSumm := fun args H => match args, H with
 | [x, .psl 49 r, .psl 49 u], [] => match atOf x with
  | some a => .ite (dec (In a r u)) (.ret (.bool true) []) .fail
  | none => .fail
 | _, _ => .fail
theorem law6_k : Known Tryz.prog 6 law6_s := by
 have kN := law6_k0 bytesN_k
 have kZ := law6_k0 bytesP_k
 refine ⟨kN.fn, fun args H v ups h => ?_⟩
 unfold law6_s at h
 split at h
 · rename_i x r u
   split at h
   · rename_i a ha
     rw [crun_ite] at h
     cases hc : dec (In a r u) with
     | false => rw [hc] at h; cases h
     | true =>
      rw [hc] at h
      cases h
      have hi := dec_iff.1 hc
      rw [atOf_v ha]
      by_cases h0 : chkAll a r u = 0
      · refine kZ.ok _ _ _ _ ?_
        refine (congrArg crun (end_z a r u)).trans ?_
        cases hl : lightB a r u with
        | false => rfl
        | true =>
         obtain ⟨lr, lu⟩ := light_len hl
         have hf := hi.fit lr lu
         have hv := hi.vd (by omega) (by omega) h0
         rw [Bool.not_true, cond_false]
         by_cases hn : 0 < r.length
         · rw [show ((r.length : Int) == 0) = false by rw [beq_eq_false_iff_ne]; omega, cond_false, dec_iff.2 ⟨hf, h0⟩, cond_true, end_ok hv lr lu hn]
           rfl
         · rw [show ((r.length : Int) == 0) = true by rw [beq_iff_eq]; omega]; rfl
      · refine kN.ok _ _ _ _ ?_
        refine (congrArg crun (end_n a r u)).trans ?_
        cases hl : lightB a r u with
        | false => rfl
        | true =>
         obtain ⟨lr, lu⟩ := light_len hl
         rw [Bool.not_true, cond_false]
         cases hz : ((r.length : Int) == 0) with
         | true => rfl
         | false =>
          rw [cond_false, dec_iff.2 ⟨hi.fit lr lu, h0⟩, cond_true, show (chkAll a r u != 0) = true by simpa using h0]
          rfl
   · cases h
 · cases h
theorem attrEnd_lifted (os : Os) (started : os.Started) (H : Type) (enc : TypeId × Value → H) :
  ReturnsInHanded {} Tryz.checked os 6 .any (Rows.attrEndSpec.pre6 enc Tryz.prog Tryz.f6 Rows.attrEndRow.domain false) (Rows.attrEndSpec.post enc Tryz.prog Tryz.f6 false true false false) := by
 refine returnsInHanded_of_change (C := Tryz.checked) Tryz.own started (by kernel_rfl) Tryz.func6
  (ChangeSpec.witness6 (enc := enc) (C := Tryz.checked) false ⟨#[], #[.agg #[.int .i64 0, .slice none 0 0, .int .u32 0, .bool false, .int .u32 0, .bool false, .int .u32 0, .bool false, .int .u32 0, .slice none 0 0, .slice none 0 0, .int .i64 0, .int .u32 0, .int .u32 0, .int .u32 0], .slice none 0 0, .slice none 0 0], []⟩ 8 (by kernel_rfl) (by kernel_rfl) (by kernel_rfl) (by kernel_rfl)) ?_
 intro W base args ds gs before hval0 hW hcnd _
 exact row_true (tb := 4) laidTryz mapsTryz fullTryz (by kernel_rfl) (by kernel_rfl) law6_k rfl Tryz.underlying4 rfl (fun ss h => by
  rw [Tryz.params6] at h
  obtain ⟨s0, ss, rfl, h0, h⟩ := h.cons_inv
  obtain ⟨s1, ss, rfl, h1, h⟩ := h.cons_inv
  obtain ⟨s2, ss, rfl, h2, h⟩ := h.cons_inv
  obtain rfl := h.nil_inv
  obtain ⟨a, r, u, rfl, rfl, rfl, hi⟩ := in_inv h0 h1 h2
  show crun (.ite (dec (In a r u)) (.ret (.bool true) []) .fail) = _
  rw [crun_ite, dec_iff.2 hi]; rfl) (fun ds h => by
   match ds, h with
   | [d0, d1, d2], _ => rfl) hval0 hW
theorem attrEnd_holds : Rows.AttrEndSaid :=
 OpenClaim.holds_of_wide 6 Tryz.f6 rfl rfl rfl rfl rfl rfl rfl ⟨rfl, rfl, rfl, rfl, rfl⟩ rfl rfl rfl rfl rfl (by kernel_rfl) Tryz.func6 (by kernel_rfl)
  (of_decide_eq_true (by kernel_rfl)) (by unfold Func.isWrapper; first | (rw [if_pos (by decide +kernel)]; kernel_rfl) | (rw [if_neg (by decide +kernel)]; exact ⟨rfl, rfl⟩))
  (fun os started H enc _ => attrEnd_lifted os started H enc)
end Go.Proofs.YtdgnhaacdpmclaaGreat
#print axioms Go.Proofs.YtdgnhaacdpmclaaGreat.attrEnd_holds
/- attr.Read of what is known by content; Pick. -/
namespace Go.Proofs.YtdgnhaacdpmclaaGreat
open Go.Am
set_option maxRecDepth 100000
theorem known_or {f : FuncId} {s1 s2 s' : CSumm} (h1 : Known Tryz.prog f s1) (h2 : Known Tryz.prog f s2) (hs : ∀ args H v ups, crun (s' args H) = some (v, ups) → crun (s1 args H) = some (v, ups) ∨ crun (s2 args H) = some (v, ups)) : Known Tryz.prog f s' :=
 ⟨h1.fn, fun args H v ups h => by
  rcases hs args H v ups h with h | h
  · exact h1.ok args H v ups h
  · exact h2.ok args H v ups h⟩
theorem nrp_t (es : List SV) : opn (tbl []) Tryz.f22 [.psl 5 es] [] = bif lenO (([] : List SV).length + es.length) then .ret (.ptr 0 0) [(0, some (.cells 121 [.int .i64 0, .int .i64 es.length, .qs 1 1 0 (([] : List SV).length + es.length), .int .i64 0, .int .i64 0, .bool true])), (1, some (.seq 5 ([] ++ es)))] else .fail := by kernel_rfl
def nrp_s : CSumm := fun args H => match args, H with
 | [.psl 5 es], [] => .ite (decide (es.length ≤ 1000000)) (.ret (.ptr 0 0) [(0, some (.cells 121 [.int .i64 0, .int .i64 es.length, .qs 1 1 0 es.length, .int .i64 0, .int .i64 0, .bool true])), (1, some (.seq 5 es))]) .fail
 | _, _ => .fail
theorem nrp_k : Known Tryz.prog 22 nrp_s := (openKnown ok0 Tryz.func22 rfl).weak (by
 intro args H v ups h
 unfold nrp_s at h
 split at h
 · rename_i es
   rw [crun_ite] at h
   cases hc : decide (es.length ≤ 1000000) with
   | false => rw [hc] at h; cases h
   | true =>
    rw [hc] at h
    have h1 := of_decide_eq_true hc
    rw [nrp_t, List.length_nil, Nat.zero_add, lenO_t h1, cond_true]
    exact h
 · cases h)
noncomputable abbrev κr9p := openT Tryz.prog (tbl [(22, nrp_s)]) 300 5
noncomputable abbrev ιr9p : Nat → Bool := fun g => inl (tbl [(22, nrp_s)]) g && hasBody Tryz.prog g
noncomputable def rdp_b : CSumm := bodyCL Tryz.prog κr9p ιr9p T9 true 300 Tryz.f9 m9
theorem rdp_k0 : Known Tryz.prog 9 rdp_b := ⟨⟨Tryz.f9, Tryz.func9, noNum_at noNumTry Tryz.func9, rfl⟩, bodyL_valid (openT_ok noNumTry mixTry (tbl_cons nrp_k ok0) 300 5) mixTry (ltab_cons mi_valid ltab_nil) Tryz.func9 (show Tryz.f9.body = some (fillC T9 m9) by kernel_rfl)⟩
theorem rdp_t (es : List SV) : rdp_b [.psl 5 es] [] =
 bif decide (es.length ≤ 1000000) then bif dec (mH 0 0 dI [] (RD 0 es.length) es.length es = mH 0 0 dI [] (RD 0 es.length) es.length es ∧ byl es ∧ es.length = es.length ∧ es.length ≤ 1000000) then rdK (attK es es.length 0 0 [] zI) es.length else .fail else .fail := by kernel_rfl
noncomputable def areadp_s : CSumm := fun args H => match args, H with
 | [.psl 5 es], [] => .ite (dec (byl es ∧ es.length ≤ 1000000)) (.ret (rdV (rdQ es es.length)) []) .fail
 | _, _ => .fail
theorem areadp_k : Known Tryz.prog 9 areadp_s := known_told rdp_k0 (by
 intro args H v' ups' h
 unfold areadp_s at h
 split at h
 · rename_i es
   rw [crun_ite] at h
   cases hc : dec (byl es ∧ es.length ≤ 1000000) with
   | false => rw [hc] at h; cases h
   | true =>
    rw [hc, cond_true] at h
    obtain ⟨h1, h3⟩ := dec_iff.1 hc
    have ht := rdp_t es
    rw [decide_eq_true h3, cond_true, dec_iff.2 ⟨rfl, h1, rfl, h3⟩, cond_true] at ht
    unfold rdQ at h
    generalize attK es es.length 0 0 [] zI = o at *
    have same : ∀ {x : Nat} {c' : Chunk}, updF [] (HpL.get []) x = some c' → ∃ c, updF [] (HpL.get []) x = some c ∧ CoC Tryz.prog x c c' := fun hx => ⟨_, hx, .rfl'⟩
    unfold rdK at ht
    unfold rdO at h
    cases h0 : o.1 == 0 with
    | true =>
     rw [h0, cond_true] at ht h
     cases h14 : lookB o.2.2.1 14 with
     | true =>
      rw [h14, cond_true, Bool.not_true, cond_false] at ht
      rw [h14, cond_true] at h
      cases h12 : (bif lookB o.2.2.1 1 then lookB o.2.2.1 2 else false) with
      | true =>
       rw [h12] at ht h; cases h
       exact ⟨_, _, congrArg crun ht, .inr ⟨.rfl', fun x c' hx => same hx⟩⟩
      | false =>
       rw [h12] at ht h; cases h
       exact ⟨_, _, congrArg crun ht, .inr ⟨.tup (.cons co_aI (.cons .nils (.cons .nils .rfl'))), fun x c' hx => same hx⟩⟩
     | false =>
      rw [h14] at ht h
      cases h
      exact ⟨_, _, congrArg crun ht, .inr ⟨.tup (.cons co_aI (.cons .nils .rfl')), fun x c' hx => same hx⟩⟩
    | false =>
     rw [h0] at ht h
     rw [cond_false, cond_false, show (o.1 != 0) = true by unfold bne; rw [h0]; rfl] at ht
     cases h
     exact ⟨_, _, congrArg crun ht, .inr ⟨.tup (.cons co_aI (.cons .nils (.cons .nils .rfl'))), fun x c' hx => same hx⟩⟩
 · cases h)
noncomputable def aread2_s : CSumm := fun args H => match args, H with
 | [.qs 0 1 0 n], [(0, .seq 5 es)] => .ite (dec (byl es ∧ n = es.length ∧ n ≤ 1000000)) (.ret (rdV (rdQ es n)) []) .fail
 | [.psl 5 es], [] => .ite (dec (byl es ∧ es.length ≤ 1000000)) (.ret (rdV (rdQ es es.length)) []) .fail
 | _, _ => .fail
theorem aread2_k : Known Tryz.prog 9 aread2_s := known_or aread_k areadp_k (by
 intro args H v ups h
 unfold aread2_s at h
 split at h
 · exact .inl h
 · exact .inr h
 · cases h)
def pckB (x n : Int) : Bool := decide (x.tmod n < 0)
def pck (x n : Int) : Int := bif pckB x n then w64 (x.tmod n + n) else x.tmod n
theorem pick_t (x n : Int) : opn (tbl []) Tryz.f16 [.int .i64 x, .int .i64 n] [] = bif n == 0 then .fail else bif pckB x n then .ret (.int .i64 (w64 (x.tmod n + n))) [] else .ret (.int .i64 (x.tmod n)) [] := by kernel_rfl
def pick_s : CSumm := fun args H => match args, H with
 | [.int .i64 x, .int .i64 n], [] => .ite (decide (0 < n)) (.ret (.int .i64 (pck x n)) []) .fail
 | _, _ => .fail
theorem pick_k : Known Tryz.prog 16 pick_s := (openKnown ok0 Tryz.func16 rfl).weak (by
 intro args H v ups h
 unfold pick_s at h
 split at h
 · rename_i x n
   rw [crun_ite] at h
   cases hc : decide (0 < n) with
   | false => rw [hc] at h; cases h
   | true =>
    rw [hc] at h
    have h1 := of_decide_eq_true hc
    rw [pick_t, show (n == 0) = false by rw [beq_eq_false_iff_ne]; omega, cond_false]
    unfold pck at h
    generalize pckB x n = q at *
    cases q <;> exact h
 · cases h)
theorem pck_rng {x n : Int} (h0 : 0 < n) (h1 : n ≤ 1000000) : 0 ≤ pck x n ∧ pck x n < n := by
 have h2 : x.tmod n < n := Int.tmod_lt_of_pos x h0
 have h3 : -n < x.tmod n := by
  have := Int.tmod_lt_of_pos (-x) h0
  rw [Int.neg_tmod] at this
  omega
 unfold pck pckB
 by_cases h : x.tmod n < 0
 · rw [decide_eq_true h, cond_true, show w64 (x.tmod n + n) = x.tmod n + n from w64_id (by omega) (by omega)]; omega
 · rw [decide_eq_false h, cond_false]; omega
end Go.Proofs.YtdgnhaacdpmclaaGreat
