/- Routes are read: the loop over the pieces is known. -/
import Derived.Test.YtnlmhpancboddaaGreatPart7
import Derived.Test.YtnlmhpancboddaaGreatMachine7
set_option linter.unusedVariables false
set_option linter.unusedSimpArgs false
namespace Go.Proofs.YtnlmhpancboddaaGreat
open Go.Am
set_option maxRecDepth 100000
theorem szP_le {p : List SV} : szP p ≤ p.length := by unfold szP; split <;> omega
theorem szP_pos {p : List SV} (h : byl p) (hp : p.length ≠ 0) : 1 ≤ szP p := by
 have := (h.ok 1).1
 unfold szP; split <;> omega
theorem byl.dropb {p : List SV} (h : byl p) (k : Nat) : byl (p.drop k) := fun v hv => h v (List.mem_of_mem_drop hv)
theorem pcs_fuel : ∀ (f : Nat) (p : List SV) (a : Int) (rs : List SV), byl p → p.length ≤ f → pcs f p a rs = pcs p.length p a rs
 | 0, p, a, rs, _, h => by rw [show p.length = 0 by omega]
 | f + 1, p, a, rs, hb, h => by
  cases hl : p.length with
  | zero => unfold pcs; rw [if_pos hl]
  | succ g =>
   have hs := szP_pos hb (by omega)
   have hd : (p.drop (szP p)).length = p.length - szP p := List.length_drop
   unfold pcs
   rw [hl, pcs_fuel f _ _ _ (hb.dropb _) (by omega), pcs_fuel g _ _ _ (hb.dropb _) (by omega)]
noncomputable def pcsL (p : List SV) (a : Int) (rs : List SV) : Int × Int × List SV := pcs p.length p a rs
theorem pcsL_nil {p : List SV} {a : Int} {rs : List SV} (h : p.length = 0) : pcsL p a rs = (0, 0, rs) := by
 unfold pcsL; rw [h]; rfl
theorem pcsL_step {p : List SV} {a : Int} {rs : List SV} (hb : byl p) (h : p.length ≠ 0) : pcsL p a rs =
  if rs.length = 4096 then (7, a, rs) else if decE (p.take (szP p)) ≠ 0 then (decE (p.take (szP p)), a, rs) else pcsL (p.drop (szP p)) (a + szP p) (rs ++ [(decN (p.take (szP p))).v]) := by
 unfold pcsL
 obtain ⟨g, hg⟩ : ∃ g, p.length = g + 1 := ⟨p.length - 1, by omega⟩
 have hs := szP_pos hb h
 have hd : (p.drop (szP p)).length = p.length - szP p := List.length_drop
 rw [hg]
 conv => lhs; unfold pcs
 rw [if_neg h, pcs_fuel g _ _ _ (hb.dropb _) (by omega)]
theorem pcs_len : ∀ (f : Nat) (p : List SV) (a : Int) (rs : List SV), rs.length ≤ (pcs f p a rs).2.2.length
 | 0, _, _, _ => Nat.le_refl _
 | f + 1, p, a, rs => by
  unfold pcs
  split
  · exact Nat.le_refl _
  · split
    · exact Nat.le_refl _
    · split
      · exact Nat.le_refl _
      · exact Nat.le_trans (by simp) (pcs_len f _ _ _)
section
variable {es : List SV} {l n : Nat} {a : Int} (ho : okA es l n a)
include ho
theorem okA.p : (sl es (l + a.toNat) (n - a.toNat)).length = n - a.toNat ∧ byl (sl es (l + a.toNat) (n - a.toNat)) := by
 obtain ⟨h1, h2, h3, h4, h5⟩ := ho
 exact ⟨sl_len (by omega), h1.sl _ _⟩
theorem pcsA_eq (rs : List SV) : pcsA es l n a rs = pcsL (sl es (l + a.toNat) (n - a.toNat)) a rs := by
 unfold pcsA pcsL
 rw [(okA.p ho).1]
theorem okA.next (h : a < n) : okA es l n (a + szP (sl es (l + a.toNat) (n - a.toNat))) := by
 obtain ⟨h1, h2, h3, h4, h5⟩ := ho
 have hl := (okA.p ⟨h1, h2, h3, h4, h5⟩).1
 have := szP_le (p := sl es (l + a.toNat) (n - a.toNat))
 exact ⟨h1, by omega, by omega, h4, h5⟩
omit ho in
theorem piece_no (h : ¬ a < n) (K : Int → CTree) : pieceK es l n a K = .ret (.tup [.int .i64 2]) [] := by
 unfold pieceK; rw [decide_eq_false h]; rfl
theorem piece_ok (h : a < n) (K : Int → CTree) : pieceK es l n a K = K (szP (sl es (l + a.toNat) (n - a.toNat)) : Nat) := by
 obtain ⟨hp, hbp⟩ := okA.p ho
 obtain ⟨h1, h2, h3, h4, h5⟩ := ho
 have hm : (n : Int).toNat - a.toNat = n - a.toNat := rfl
 unfold pieceK
 rw [decide_eq_true h, decide_eq_true h2, decide_eq_true h3, decide_eq_true (Int.le_refl _), hm]
 simp only [Bool.and_self, cond_true]
 by_cases hc : 2 ≤ n - a.toNat
 · have hd : dg es (l + a.toNat + 1) = dg (sl es (l + a.toNat) (n - a.toNat)) 1 := (sl_dg (by omega)).symm
   obtain ⟨r1, r2⟩ := hbp.ok 1
   have hw : wD es l a = 2 + dg (sl es (l + a.toNat) (n - a.toNat)) 1 := by
    unfold wD
    rw [hd, w64_id (n := dg (sl es (l + a.toNat) (n - a.toNat)) 1) (by omega) (by omega), w64_id (n := 2 + dg (sl es (l + a.toNat) (n - a.toNat)) 1) (by omega) (by omega)]
   have hsz : szI es l n a = (szP (sl es (l + a.toNat) (n - a.toNat)) : Nat) := by
    unfold szI szP
    rw [hw, hm, hp, if_pos hc]
    by_cases hlt : 2 + dg (sl es (l + a.toNat) (n - a.toNat)) 1 < ((n - a.toNat : Nat) : Int)
    · rw [decide_eq_true hlt, cond_true]; omega
    · rw [decide_eq_false hlt, cond_false]; omega
   have hle := szP_le (p := sl es (l + a.toNat) (n - a.toNat))
   rw [decide_eq_true (show ((n - a.toNat : Nat) : Int) ≥ 2 by omega), show inB 1 (n - a.toNat) = true by unfold inB; simp; omega, decide_eq_true (show l + a.toNat + 1 < es.length by omega), hsz,
    decide_eq_true (Int.le_refl _), decide_eq_true (show (0 : Int) ≤ (szP (sl es (l + a.toNat) (n - a.toNat)) : Nat) by omega), decide_eq_true (show ((szP (sl es (l + a.toNat) (n - a.toNat)) : Nat) : Int) ≤ (n - a.toNat : Nat) by omega)]
   rfl
 · have hsz : szP (sl es (l + a.toNat) (n - a.toNat)) = n - a.toNat := by
     unfold szP; rw [hp, if_neg hc]
   rw [decide_eq_false (show ¬ ((n - a.toNat : Nat) : Int) ≥ 2 by omega), hsz, decide_eq_true (Int.le_refl _), decide_eq_true (show (0 : Int) ≤ (n - a.toNat : Nat) by omega), decide_eq_true (Int.le_refl _)]
   rfl
theorem dec_st (h : a < n) (d : Nat) (K : Nl → CTree) : decK es l a (szP (sl es (l + a.toNat) (n - a.toNat)) : Nat) d n K =
  bif decE ((sl es (l + a.toNat) (n - a.toNat)).take (szP (sl es (l + a.toNat) (n - a.toNat)))) != 0 then badK d l n (decE ((sl es (l + a.toNat) (n - a.toNat)).take (szP (sl es (l + a.toNat) (n - a.toNat))))) a
   else K (decN ((sl es (l + a.toNat) (n - a.toNat)).take (szP (sl es (l + a.toNat) (n - a.toNat))))) := by
 obtain ⟨hp, hbp⟩ := okA.p ho
 obtain ⟨h1, h2, h3, h4, h5⟩ := ho
 have hle := szP_le (p := sl es (l + a.toNat) (n - a.toNat))
 generalize szP (sl es (l + a.toNat) (n - a.toNat)) = k at hle ⊢
 have he : sl es (l + a.toNat + 0) (((k : Nat) : Int).toNat - 0) = (sl es (l + a.toNat) (n - a.toNat)).take k := by
  unfold sl
  rw [List.take_take, Nat.min_eq_left (by omega)]; rfl
 unfold decK
 rw [dec_iff.2 ⟨h1, by show l + a.toNat + 0 + (k - 0) ≤ es.length; omega, h5⟩, he]
 rfl
theorem next_ok (h : a < n) {N : Nat} (hN : Nat.blt (n - a.toNat) (N + 1) = true) {m : Nat} {rs : List SV} (hm : m = rs.length) (hq : rs.length ≤ 4096) (A B : Int × Int × List SV → CTree) :
  nextP N es l n (IntKind.i64.wrap (a + (szP (sl es (l + a.toNat) (n - a.toNat)) : Nat))) m rs A B =
   bif (pcsL ((sl es (l + a.toNat) (n - a.toNat)).drop (szP (sl es (l + a.toNat) (n - a.toNat)))) (a + szP (sl es (l + a.toNat) (n - a.toNat))) rs).1 == 0
   then A (pcsL ((sl es (l + a.toNat) (n - a.toNat)).drop (szP (sl es (l + a.toNat) (n - a.toNat)))) (a + szP (sl es (l + a.toNat) (n - a.toNat))) rs)
   else B (pcsL ((sl es (l + a.toNat) (n - a.toNat)).drop (szP (sl es (l + a.toNat) (n - a.toNat)))) (a + szP (sl es (l + a.toNat) (n - a.toNat))) rs) := by
 have hn := okA.next ho h
 obtain ⟨hp, hbp⟩ := okA.p ho
 have hle := szP_le (p := sl es (l + a.toNat) (n - a.toNat))
 have hps := szP_pos hbp (by rw [hp]; obtain ⟨h1, h2, h3, h4, h5⟩ := ho; omega)
 have hx := pcsA_eq hn rs
 generalize szP (sl es (l + a.toNat) (n - a.toNat)) = k at hle hps hn hx ⊢
 obtain ⟨h1, h2, h3, h4, h5⟩ := ho
 rw [Nat.blt_eq] at hN
 have hw : IntKind.i64.wrap (a + (k : Nat)) = a + k := w64_id (by omega) (by omega)
 have ha : (a + (k : Int)).toNat = a.toNat + k := by omega
 unfold nextP
 rw [hw, dec_iff.2 ⟨rfl, rfl, hm, hq, hn⟩, show Nat.blt (n - (a + (k : Int)).toNat) N = true by rw [Nat.blt_eq]; omega, hx, sl_drop]
 rw [ha, show l + (a.toNat + k) = l + a.toNat + k by omega, show n - (a.toNat + k) = n - a.toNat - k by omega]
 rfl
end
end Go.Proofs.YtnlmhpancboddaaGreat
/- Routes are read: the loop over the pieces, valid. -/
namespace Go.Proofs.YtnlmhpancboddaaGreat
open Go.Am
set_option maxRecDepth 100000
theorem hr1_ren {l n m : Nat} {es rs : List SV} {c3 c2 c0 : Chunk} (h3 : renC (sw 5 9) c3 = c3) (h2 : renC (sw 5 9) c2 = c2) (h0 : renC (sw 5 9) c0 = c0) : ∀ x, updF [(3, some c3), (2, some c2), (4, some (.cells 50 [.qs 9 21 0 m])), (5, none), (0, some c0), (9, some (.seq 88 rs))] (HR1 l n es m rs).get x =
  if x = 9 then (updF [(3, some c3), (2, some c2), (0, some c0)] (HR1 l n es m rs).get 5).map (renC (sw 5 9)) else if x = 5 then none else (updF [(3, some c3), (2, some c2), (0, some c0)] (HR1 l n es m rs).get x).map (renC (sw 5 9))
 | 0 => by show some c0 = some (renC (sw 5 9) c0); rw [h0]
 | 1 => rfl
 | 2 => by show some c2 = some (renC (sw 5 9) c2); rw [h2]
 | 3 => by show some c3 = some (renC (sw 5 9) c3); rw [h3]
 | 4 => rfl | 5 => rfl | 6 => rfl | 7 => rfl | 8 => rfl | 9 => rfl
 | x + 10 => by
  have h1 : ∀ k, k < 10 → ¬ (x + 10 = k) := fun k hk => by omega
  have h2 : ∀ k, k < 10 → Nat.beq k (x + 10) = false := fun k hk => nb_f (by omega)
  simp only [updF, HR1, HpL.get, h1 9 (by omega), h1 5 (by omega), h1 4 (by omega), h1 3 (by omega), h1 2 (by omega), h1 0 (by omega), if_false, h2 0 (by omega), h2 1 (by omega), h2 2 (by omega), h2 3 (by omega), h2 4 (by omega), h2 5 (by omega), h2 6 (by omega), h2 7 (by omega), h2 8 (by omega), cond_false, Option.map_none]
theorem lr92_ren {l n : Nat} {st : LS} : renC (sw 5 9) (lr92 1 st l n) = lr92 1 st l n := rfl
theorem lr92_no {l n : Nat} {st : LS} : 9 ∉ namesC (lr92 1 st l n) := by
 have : namesC (lr92 1 st l n) = [1, 2, 3, 4, 6, 7, 1, 8] := rfl
 rw [this]; decide
theorem hr1_no {l n m : Nat} {es rs : List SV} : ∀ x c, (HR1 l n es m rs).get x = some c → 9 ∉ namesC c := by
 intro x c hx
 have := HpL_get_some _ _ _ hx
 simp only [HR1, List.mem_cons, Prod.mk.injEq, List.not_mem_nil, or_false] at this
 rcases this with ⟨_, rfl⟩ | ⟨_, rfl⟩ | ⟨_, rfl⟩ | ⟨_, rfl⟩ | ⟨_, rfl⟩ | ⟨_, rfl⟩ | ⟨_, rfl⟩ | ⟨_, rfl⟩ | ⟨_, rfl⟩
 · exact lr92_no
 all_goals simp [namesC, namesL, namesS, cM]
theorem bads_ren {l n m : Nat} {es rs : List SV} {e a : Int} : Renamed (HR1 l n es m rs) (.tup [.int .i64 1]) (bads e a ++ [(0, some (lr92 1 (.done .ret) l n))]) (.tup [.int .i64 1])
  (bads e a ++ [(4, some (.cells 50 [.qs 9 21 0 m])), (5, none), (0, some (lr92 1 (.done .ret) l n)), (9, some (.seq 88 rs))]) := by
 refine ⟨5, 9, by simp [HR1], by simp [namesS, namesL], ?_, rfl, hr1_ren rfl rfl lr92_ren⟩
 intro x c hx
 simp only [bads, List.cons_append, List.nil_append, updF] at hx
 by_cases h3 : x = 3
 · simp only [h3, if_true] at hx; simp only [show ¬ ((3 : Nat) = 0) by omega, show ¬ ((3 : Nat) = 2) by omega, if_false] at hx; cases hx; simp [namesC, namesL, namesS]
 by_cases h2 : x = 2
 · simp only [h2, if_true] at hx; simp only [show ¬ ((2 : Nat) = 0) by omega, if_false] at hx; cases hx; simp [namesC, namesL, namesS]
 by_cases h0 : x = 0
 · simp only [h0, if_true] at hx; cases hx; exact lr92_no
 · simp only [h0, h2, h3, if_false] at hx; exact hr1_no x c hx
theorem none_ren {l n m : Nat} {es rs : List SV} : Renamed (HR1 l n es m rs) (.tup [.int .i64 2]) [] (.tup [.int .i64 2]) [(4, some (.cells 50 [.qs 9 21 0 m])), (5, none), (9, some (.seq 88 rs))] := by
 refine ⟨5, 9, by simp [HR1], by simp [namesS, namesL], fun x c hx => hr1_no x c hx, rfl, fun x => ?_⟩
 have := hr1_ren (l := l) (n := n) (m := m) (es := es) (rs := rs) (c3 := .cells 28 [.int .i64 0, .int .i64 0]) (c2 := .cells 50 [.nils]) (c0 := lr92 1 .ready l n) rfl rfl lr92_ren x
 have e : ∀ x, updF [(3, some (.cells 28 [.int .i64 0, .int .i64 0])), (2, some (.cells 50 [.nils])), (0, some (lr92 1 .ready l n))] (HR1 l n es m rs).get x = (HR1 l n es m rs).get x := by
  intro x
  match x with
  | 0 => rfl | 1 => rfl | 2 => rfl | 3 => rfl
  | x + 4 => simp only [updF, show ¬ (x + 4 = 0) by omega, show ¬ (x + 4 = 2) by omega, show ¬ (x + 4 = 3) by omega, if_false]
 rw [e, e] at this
 show updF [(4, some (.cells 50 [.qs 9 21 0 m])), (5, none), (9, some (.seq 88 rs))] (HR1 l n es m rs).get x = if x = 9 then ((HR1 l n es m rs).get 5).map (renC (sw 5 9)) else if x = 5 then none else ((HR1 l n es m rs).get x).map (renC (sw 5 9))
 rw [← this]
 match x with
 | 0 => rfl | 1 => rfl | 2 => rfl | 3 => rfl
 | x + 4 => simp only [updF, show ¬ (x + 4 = 0) by omega, show ¬ (x + 4 = 2) by omega, show ¬ (x + 4 = 3) by omega, if_false]
theorem upd_sw (c2 c3 : Option Chunk) (l : List (Nat × Option Chunk)) (h : HpF) : ∀ x, updF ((3, c3) :: (2, c2) :: l) h x = updF ((2, c2) :: (3, c3) :: l) h x := by
 have e : updF [(3, c3), (2, c2)] h = updF [(2, c2), (3, c3)] h := by
  funext x
  by_cases h3 : x = 3
  · subst h3; rfl
  · by_cases h2 : x = 2
    · subst h2; rfl
    · simp only [updF, h3, h2, if_false]
 intro x
 show updF l (updF [(3, c3), (2, c2)] h) x = updF l (updF [(2, c2), (3, c3)] h) x
 rw [e]
theorem A0_same {l n : Nat} {es : List SV} {c : Chunk} {d : Chunk} : ∀ x, updF [(4, some c), (8, some d)] (HR0 l n es).get x = updF [(4, some c), (0, some (lr92 0 .ready l n)), (8, some d)] (HR0 l n es).get x := by
 intro x
 by_cases h0 : x = 0
 · subst h0; rfl
 · simp only [updF, h0, if_false]
theorem A1_same {l n m : Nat} {es rs : List SV} {c : Chunk} {d : Chunk} : ∀ x, updF [(4, some c), (5, none), (9, some d)] (HR1 l n es m rs).get x = updF [(4, some c), (5, none), (0, some (lr92 1 .ready l n)), (9, some d)] (HR1 l n es m rs).get x := by
 intro x
 by_cases h0 : x = 0
 · subst h0; rfl
 · simp only [updF, h0, if_false]
theorem pOf_q {args : List SV} {H : HpL} {r : SV × List (Nat × Option Chunk)} (h : crun (pcs_s args H) = some r) :
  (∃ l n es a, args = [.yl 0, .ptr 7 0, .int .i64 a] ∧ H = HR0 l n es ∧ okA es l n a ∧ crun (pcs0 es l n (pcsA es l n a [])) = some r) ∨
  ∃ l n es a rs, args = [.yl 0, .ptr 8 0, .int .i64 a] ∧ H = HR1 l n es rs.length rs ∧ okA es l n a ∧ rs.length ≤ 4096 ∧ crun (pcs1 es l n (pcsA es l n a rs)) = some r := by
 unfold pcs_s at h
 split at h
 · rename_i q a
   split at h
   · rename_i l n es hp
     rw [crun_ite] at h
     cases hc : dec (q = 7 ∧ H = HR0 l n es ∧ okA es l n a) with
     | false => rw [hc] at h; cases h
     | true =>
      rw [hc] at h
      obtain ⟨rfl, rfl, h3⟩ := dec_iff.1 hc
      exact .inl ⟨l, n, es, a, rfl, rfl, h3, h⟩
   · rename_i l n es m rs hp
     rw [crun_ite] at h
     cases hc : dec (q = 8 ∧ H = HR1 l n es m rs ∧ m = rs.length ∧ rs.length ≤ 4096 ∧ okA es l n a) with
     | false => rw [hc] at h; cases h
     | true =>
      rw [hc] at h
      obtain ⟨rfl, rfl, rfl, h2, h3⟩ := dec_iff.1 hc
      exact .inr ⟨l, n, es, a, rs, rfl, rfl, h3, h2, h⟩
   · cases h
 · cases h
theorem pcs_valid : ValidL Tryz.prog e115 := loop_valid2 (κ := κp) (ι := ιp) (T := ltab []) (sp := true) (fuel := 300) (c := c115) (μ := pcsM) (openT_ok noNumTry mixTry rOk 300 5) mixTry ltab_nil (show fillC (ltab []) c115 = c115 by kernel_rfl) (by
 intro N args H v' ups' hb hr
 rcases pOf_q hr with ⟨l, n, es, a, rfl, rfl, ho, hr⟩ | ⟨l, n, es, a, rs, rfl, rfl, ho, hq, hr⟩
 · have hN : Nat.blt (n - a.toNat) (N + 1) = true := hb
   have hbp := okA.p ho
   rw [pcsA_eq ho] at hr
   have hrd := round0 l n N a es
   by_cases hlt : a < n
   · rw [piece_ok ho hlt, dec_st ho hlt, next_ok ho hlt hN (m := 1) (rs := [(decN ((sl es (l + a.toNat) (n - a.toNat)).take (szP (sl es (l + a.toNat) (n - a.toNat))))).v]) rfl (by simp)] at hrd
     have hpn : (sl es (l + a.toNat) (n - a.toNat)).length ≠ 0 := by rw [hbp.1]; obtain ⟨h1, h2, h3, h4, h5⟩ := ho; omega
     rw [pcsL_step hbp.2 hpn, if_neg (by simp)] at hr
     have hlen : 1 ≤ (pcsL ((sl es (l + a.toNat) (n - a.toNat)).drop (szP (sl es (l + a.toNat) (n - a.toNat)))) (a + szP (sl es (l + a.toNat) (n - a.toNat))) [(decN ((sl es (l + a.toNat) (n - a.toNat)).take (szP (sl es (l + a.toNat) (n - a.toNat))))).v]).2.2.length := pcs_len _ _ _ [(decN ((sl es (l + a.toNat) (n - a.toNat)).take (szP (sl es (l + a.toNat) (n - a.toNat))))).v]
     generalize szP (sl es (l + a.toNat) (n - a.toNat)) = k at *
     cases hd : (decE ((sl es (l + a.toNat) (n - a.toNat)).take k) != 0) with
     | true =>
      rw [hd] at hrd
      rw [if_pos (by simpa using hd)] at hr
      unfold pcs0 at hr
      rw [crun_ite, decide_eq_true (show (([] : List SV).length = 0) from rfl), cond_true, crun_ite] at hr
      have : (decE ((sl es (l + a.toNat) (n - a.toNat)).take k) == 0) = false := by simpa using hd
      rw [this] at hr
      cases hr
      exact .inl ⟨_, congrArg crun hrd, fun x => rfl⟩
     | false =>
      rw [hd] at hrd
      rw [if_neg (by simpa using hd)] at hr
      rw [show ([] : List SV) ++ [(decN ((sl es (l + a.toNat) (n - a.toNat)).take k)).v] = [(decN ((sl es (l + a.toNat) (n - a.toNat)).take k)).v] from rfl] at hr
      generalize pcsL ((sl es (l + a.toNat) (n - a.toNat)).drop k) (a + k) [(decN ((sl es (l + a.toNat) (n - a.toNat)).take k)).v] = r at *
      unfold pcs0 at hr
      rw [crun_ite, decide_eq_false (show ¬ r.2.2.length = 0 by omega), cond_false, crun_ite] at hr
      cases he : r.1 == 0 with
      | true =>
       rw [he] at hr hrd
       cases hr
       exact .inl ⟨_, congrArg crun hrd, A0_same⟩
      | false =>
       rw [he] at hr hrd
       cases hr
       exact .inl ⟨_, congrArg crun hrd, upd_sw _ _ _ _⟩
   · rw [piece_no hlt] at hrd
     have hpn : (sl es (l + a.toNat) (n - a.toNat)).length = 0 := by rw [hbp.1]; obtain ⟨h1, h2, h3, h4, h5⟩ := ho; omega
     rw [pcsL_nil hpn] at hr
     cases hr
     exact .inl ⟨_, congrArg crun hrd, fun x => rfl⟩
 · have hN : Nat.blt (n - a.toNat) (N + 1) = true := hb
   have hbp := okA.p ho
   rw [pcsA_eq ho] at hr
   have hrd := round1 l n N rs.length a es rs
   by_cases hlt : a < n
   · have hpn : (sl es (l + a.toNat) (n - a.toNat)).length ≠ 0 := by rw [hbp.1]; obtain ⟨h1, h2, h3, h4, h5⟩ := ho; omega
     rw [pcsL_step hbp.2 hpn] at hr
     rw [piece_ok ho hlt] at hrd
     by_cases h4 : rs.length = 4096
     · rw [if_pos h4] at hr
       rw [show ((rs.length : Int) == 4096) = true by simp; omega] at hrd
       cases hr
       exact .inr ⟨_, _, congrArg crun hrd, bads_ren⟩
     · rw [if_neg h4] at hr
       rw [show ((rs.length : Int) == 4096) = false by simp; omega, cond_false, dec_st ho hlt] at hrd
       cases hd : (decE ((sl es (l + a.toNat) (n - a.toNat)).take (szP (sl es (l + a.toNat) (n - a.toNat)))) != 0) with
       | true =>
        rw [hd] at hrd
        rw [if_pos (by simpa using hd)] at hr
        unfold pcs1 at hr
        rw [crun_ite] at hr
        have : (decE ((sl es (l + a.toNat) (n - a.toNat)).take (szP (sl es (l + a.toNat) (n - a.toNat)))) == 0) = false := by simpa using hd
        rw [this] at hr
        cases hr
        exact .inr ⟨_, _, congrArg crun hrd, bads_ren⟩
       | false =>
        rw [hd, cond_false, decide_eq_true rfl, cond_true, show grB rs.length = true by unfold grB; simp; omega, cond_true, next_ok ho hlt hN (m := rs.length + 1) (rs := rs ++ [(decN ((sl es (l + a.toNat) (n - a.toNat)).take (szP (sl es (l + a.toNat) (n - a.toNat))))).v]) (by simp) (by simp; omega)] at hrd
        rw [if_neg (by simpa using hd)] at hr
        generalize szP (sl es (l + a.toNat) (n - a.toNat)) = k at *
        generalize pcsL ((sl es (l + a.toNat) (n - a.toNat)).drop k) (a + k) (rs ++ [(decN ((sl es (l + a.toNat) (n - a.toNat)).take k)).v]) = r at *
        unfold pcs1 at hr
        rw [crun_ite] at hr
        cases he : r.1 == 0 with
        | true =>
         rw [he] at hr hrd
         cases hr
         exact .inl ⟨_, congrArg crun hrd, A1_same⟩
        | false =>
         rw [he] at hr hrd
         cases hr
         exact .inl ⟨_, congrArg crun hrd, upd_sw _ _ _ _⟩
   · rw [piece_no hlt] at hrd
     have hpn : (sl es (l + a.toNat) (n - a.toNat)).length = 0 := by rw [hbp.1]; obtain ⟨h1, h2, h3, h4, h5⟩ := ho; omega
     rw [pcsL_nil hpn] at hr
     cases hr
     exact .inr ⟨_, _, congrArg crun hrd, none_ren⟩)
end Go.Proofs.YtnlmhpancboddaaGreat
/- Routes are read: nlri.Read. -/
namespace Go.Proofs.YtnlmhpancboddaaGreat
open Go.Am
set_option maxRecDepth 100000
noncomputable abbrev Tp : LTab := ltab [("p", e115)]
noncomputable abbrev Mp : Nat → Option Code := mtab [(145, m115)]
noncomputable abbrev b92 : Code := Tryz.f136.body.getD .skip
noncomputable def read_b : CSumm := bodyCM Tryz.prog κp ιp Tp Mp true 300 Tryz.f136 b92
theorem read_k0 : Known Tryz.prog 136 read_b :=
 ⟨⟨Tryz.f136, Tryz.func136, noNum_at noNumTry Tryz.func136, rfl⟩, bodyM_valid (openT_ok noNumTry mixTry rOk 300 5) mixTry (ltab_cons pcs_valid ltab_nil) (mtab_cons Tryz.func145 (show Tryz.f145.body = some (fillC Tp m115) by kernel_rfl) mtab_nil) Tryz.func136 (show Tryz.f136.body = some (fillC Tp b92) by kernel_rfl)⟩
noncomputable def readK (r : Int × Int × List SV) : CTree := bif decide (r.2.2.length = 0) then bif r.1 == 0 then .ret (.tup [.nils, .agg [.int .i64 0, .int .i64 0]]) [] else .ret (.tup [.nils, .agg [.int .i64 r.1, .int .i64 r.2.1]]) []
 else bif r.1 == 0 then .ret (.tup [.qs 1 21 0 r.2.2.length, .agg [.int .i64 0, .int .i64 0]]) [(1, some (.seq 88 r.2.2))] else .ret (.tup [.nils, .agg [.int .i64 r.1, .int .i64 r.2.1]]) []
theorem read_t (l n : Nat) (es : List SV) : read_b [.qs 0 1 l n] [(0, .seq 5 es)] =
 bif dec (7 = 7 ∧ HR0 l n es = HR0 l n es ∧ okA es l n 0) then readK (pcsA es l n 0 []) else .fail := by kernel_rfl
noncomputable def rdE (p : List SV) : Int := (pcsL p 0 []).1
noncomputable def rdA (p : List SV) : Int := if (pcsL p 0 []).1 = 0 then 0 else (pcsL p 0 []).2.1
noncomputable def rdL (p : List SV) : List SV := if (pcsL p 0 []).1 = 0 then (pcsL p 0 []).2.2 else []
noncomputable def read_s : CSumm := fun args H => match args, H with
 | [.qs 0 1 l n], [(0, .seq 5 es)] => .ite (dec (byl es ∧ l + n ≤ es.length ∧ es.length ≤ 1000000)) (.ret (.tup [.psl 88 (rdL (sl es l n)), .agg [.int .i64 (rdE (sl es l n)), .int .i64 (rdA (sl es l n))]]) []) .fail
 | _, _ => .fail
theorem read_k : Known Tryz.prog 136 read_s := known_told read_k0 (by
 intro args H v' ups' h
 unfold read_s at h
 split at h
 · rename_i l n es
   rw [crun_ite] at h
   cases hc : dec (byl es ∧ l + n ≤ es.length ∧ es.length ≤ 1000000) with
   | false => rw [hc] at h; cases h
   | true =>
    rw [hc] at h
    obtain ⟨h1, h2, h3⟩ := dec_iff.1 hc
    have ho : okA es l n 0 := ⟨h1, by omega, by omega, h2, h3⟩
    have ht := read_t l n es
    rw [dec_iff.2 ⟨rfl, rfl, ho⟩, cond_true, pcsA_eq ho, show l + (0 : Int).toNat = l from rfl, show n - (0 : Int).toNat = n from rfl] at ht
    have hg : ∀ x c', HpL.get [(0, .seq 5 es)] x = some c' → x = 0 := fun x c' hx => by
     have := HpL_get_some _ _ _ hx
     simp at this
     exact this.1
    have told : ∀ (a b : SV), Am.Told Tryz.prog [(0, .seq 5 es)] (.tup [.nils, .agg [a, b]]) [] (.tup [.psl 88 [], .agg [a, b]]) [] := fun a b => ⟨.tup (.cons .nils .rfl'), fun x c' hx => ⟨c', hx, .rfl'⟩⟩
    unfold rdL rdE rdA at h
    cases h
    generalize pcsL (sl es l n) 0 [] = r at ht ⊢
    unfold readK at ht
    by_cases he : r.1 = 0
    · rw [show (r.1 == 0) = true by simpa using he] at ht
      rw [if_pos he, if_pos he, he]
      by_cases hl : r.2.2.length = 0
      · rw [decide_eq_true hl] at ht
        rw [List.eq_nil_of_length_eq_zero hl]
        exact ⟨_, _, congrArg crun ht, .inr (told _ _)⟩
      · rw [decide_eq_false hl] at ht
        refine ⟨_, _, congrArg crun ht, .inl ⟨1, 88, r.2.2, rfl, .tup (.cons (.qs rfl) .rfl'), fun x c' hx => ?_⟩⟩
        have h0 := hg x c' hx
        subst h0
        exact ⟨by decide, c', hx, .rfl'⟩
    · rw [show (r.1 == 0) = false by simpa using he] at ht
      rw [if_neg he, if_neg he]
      refine ⟨_, [], ?_, .inr (told _ _)⟩
      rw [congrArg crun ht]
      cases decide (r.2.2.length = 0) <;> rfl
 · cases h)
end Go.Proofs.YtnlmhpancboddaaGreat
/- The reference's numbers of routes: take. -/
namespace Go.Proofs.YtnlmhpancboddaaGreat
open Go.Am
set_option maxRecDepth 100000
def tkP (p : List SV) (a k : Nat) : Int := if a + k ≤ p.length then tkN p a k else 0
end Go.Proofs.YtnlmhpancboddaaGreat
/- The reference's route of a value. -/
namespace Go.Proofs.YtnlmhpancboddaaGreat
open Go.Am
set_option maxRecDepth 100000
def rd1 (p : List SV) (k : Int) : Nl := { zK k with rd := tkP p 0 8 }
end Go.Proofs.YtnlmhpancboddaaGreat
/- The reference's route of a value: what has been written is read. -/
namespace Go.Proofs.YtnlmhpancboddaaGreat
open Go.Am
set_option maxRecDepth 100000
end Go.Proofs.YtnlmhpancboddaaGreat
/- The reference's route of a value, known. -/
namespace Go.Proofs.YtnlmhpancboddaaGreat
open Go.Am
set_option maxRecDepth 100000
theorem zc {x B : Int} (h : x = 0) (hB : 0 < B) : 0 ≤ x ∧ x < B := by rw [h]; exact ⟨Int.le_refl _, hB⟩
set_option maxHeartbeats 2000000 in
section
variable {p : List SV} (hb : byl p) (hl : p.length ≤ 1000000)
include hb hl
end
end Go.Proofs.YtnlmhpancboddaaGreat
/- The reference's bytes of a route, valid or not. -/
namespace Go.Proofs.YtnlmhpancboddaaGreat
open Go.Am
set_option maxRecDepth 100000
/- The reference's loop over routes. -/
end Go.Proofs.YtnlmhpancboddaaGreat
/- The reference's loop over routes: a round. -/
namespace Go.Proofs.YtnlmhpancboddaaGreat
open Go.Am
set_option maxRecDepth 100000
abbrev w64 (n : Int) : Int := IntKind.i64.wrap n
end Go.Proofs.YtnlmhpancboddaaGreat
/- The reference's loop over routes, valid. -/
namespace Go.Proofs.YtnlmhpancboddaaGreat
open Go.Am
set_option maxRecDepth 100000
section
variable {p : List SV} {a : Int} (hb : byl p) (hl : p.length ≤ 1000000) (h0 : 0 ≤ a) (h1 : a < p.length)
include hb hl h0 h1
omit hl h0 h1 in
theorem pce_cut (hc : ((p.drop a.toNat).length : Int) < 2 + dg (p.drop a.toNat) 1 ∨ (p.drop a.toNat).length < 2) : decE ((p.drop a.toNat).take (szP (p.drop a.toNat))) = 4 := by
 obtain ⟨r1, r2⟩ := (hb.dropb a.toNat).ok 1
 have hs : szP (p.drop a.toNat) = (p.drop a.toNat).length := by unfold szP; split <;> omega
 rw [hs, List.take_length]
 unfold decE
 by_cases h2 : (p.drop a.toNat).length < 2
 · rw [if_pos h2]
 · rw [if_neg h2, if_pos (by omega)]
end
end Go.Proofs.YtnlmhpancboddaaGreat
/- The reference's Read of routes. -/
namespace Go.Proofs.YtnlmhpancboddaaGreat
open Go.Am
set_option maxRecDepth 100000
end Go.Proofs.YtnlmhpancboddaaGreat
/- Attributes are read: the next one. -/
namespace Go.Proofs.YtnlmhpancboddaaGreat
open Go.Am
set_option maxRecDepth 100000
noncomputable abbrev κn := tbl [(69, num_s)]
theorem nOk : KOk Tryz.prog κn := tbl_cons num_k ok0
def shC (a e f : Int) : Chunk := .cells 157 [.int .i64 a, .int .i64 a, .nils, .int .i64 e, .int .i64 f, .bool true]
def subK (r : Rd) (n : Nat) (k : Int) (K : Chunk → Rd → CTree) : CTree :=
 bif r.err != 0 then K (shC r.at_ r.err r.fat) r else bif shortB r k then (bif r.err == 0 then K (shC r.at_ 4 r.at_) ⟨r.at_, r.end_, 4, r.at_⟩ else K (shC r.at_ r.err r.fat) r) else
 bif okSl r k n then K (rC ⟨r.at_, wA r k, 0, 0⟩ n) ⟨wA r k, r.end_, r.err, r.fat⟩ else .fail
def andI (k : IntKind) (a b : Int) : Int := k.wrap ((BitVec.ofInt k.bits a &&& BitVec.ofInt k.bits b).toNat : Int)
abbrev w8 (n : Int) : Int := IntKind.u8.wrap n
def nextL (r : Rd) (n : Nat) (es : List SV) (c : Chunk) (r' : Rd) : CTree :=
 .ret (.tup [.agg [.ptr 2 0, .int .i64 r.at_, .int .u8 (w8 (r.num es 1)), .int .u8 (w8 ((r.adv 1).num es 1))], .bool (r'.err == 0)]) [(0, some (rC r' n)), (2, some c)]
theorem next_t (r : Rd) (n : Nat) (es : List SV) : opn κn Tryz.f98 [.ptr 0 0] (rH r n es) =
 rdC r n es 1 (rdC (r.adv 1) n es 1 (bif andI .u8 (w8 (r.num es 1)) 16 != 0 then rdC ((r.adv 1).adv 1) n es 2 (subK (((r.adv 1).adv 1).adv 2) n (IntKind.i64.wrap (((r.adv 1).adv 1).num es 2)) (nextL r n es))
  else rdC ((r.adv 1).adv 1) n es 1 (subK (((r.adv 1).adv 1).adv 1) n (IntKind.i64.wrap (((r.adv 1).adv 1).num es 1)) (nextL r n es)))) := by kernel_rfl
end Go.Proofs.YtnlmhpancboddaaGreat
