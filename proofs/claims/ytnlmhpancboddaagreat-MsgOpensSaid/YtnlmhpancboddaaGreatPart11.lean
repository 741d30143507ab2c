/- Attributes are read: the loop over a path, known. -/
import Derived.Test.YtnlmhpancboddaaGreatPart10
set_option linter.unusedVariables false
set_option linter.unusedSimpArgs false
namespace Go.Proofs.YtnlmhpancboddaaGreat
open Go.Am
set_option maxRecDepth 100000
theorem pB_no {r : Rd} {n : Nat} {es : List SV} {x : Ax} {cb mb : Bool} {d : Ds} {j : Nat} {l : List SV} : ∀ y c, (pB r n es x cb mb d j l).get y = some c → 5 ∉ namesC c := by
 intro y c hx
 have := HpL_get_some _ _ _ hx
 simp only [pB, List.mem_cons, Prod.mk.injEq, List.not_mem_nil, or_false] at this
 rcases this with ⟨_, rfl⟩ | ⟨_, rfl⟩ | ⟨_, rfl⟩ | ⟨_, rfl⟩ | ⟨_, rfl⟩ <;> cases cb <;> cases mb <;> simp [namesC, namesL, namesS, dLx, aC, rCk, nz]
theorem pB_ren {r : Rd} {n : Nat} {es : List SV} {x : Ax} {cb mb : Bool} {d : Ds} {j : Nat} {l : List SV} : Renamed (pB r n es x cb mb d j l) (.tup [.int .i64 2]) [] (.tup [.int .i64 2]) [(0, some (dLx (.qs 5 1 0 j) (nz cb 37 d.cl) (nz mb 136 d.cm) d)), (1, none), (3, some (rCk 4 r n)), (5, some (.seq 36 l))] := by
 refine ⟨1, 5, by simp [pB], by simp [namesS, namesL], pB_no, rfl, fun y => ?_⟩
 match y with
 | 0 => cases cb <;> cases mb <;> rfl
 | 1 => rfl
 | 2 => rfl
 | 3 => rfl
 | 4 => rfl
 | 5 => rfl
 | y + 6 =>
  have h2 : ∀ k, k < 6 → Nat.beq k (y + 6) = false := fun k hk => nb_f (by omega)
  have h1 : ∀ k, k < 6 → ¬ (y + 6 = k) := fun k hk => by omega
  simp only [updF, pB, HpL.get, h1 5 (by omega), h1 3 (by omega), h1 1 (by omega), h1 0 (by omega), if_false, h2 0 (by omega), h2 1 (by omega), h2 2 (by omega), h2 3 (by omega), h2 4 (by omega), cond_false, Option.map_none]
theorem wd_one {es : List SV} {s j : Nat} (h : 0 < j) : wd es s j = .int .u32 (tkN es s 4) :: wd es (s + 4) (j - 1) := by
 obtain ⟨k, rfl⟩ : ∃ k, j = k + 1 := ⟨j - 1, by omega⟩
 rfl
theorem pNx_ok {N q s t n : Nat} {es : List SV} {x : Ax} {cb mb : Bool} {d : Ds} {m i : Int} {j : Nat} {l : List SV} (hN : (m - i).toNat < N) (hj : j = l.length) (hl : l.length + (m - i).toNat ≤ 2000) (h : pOk 4 s t n es m i) (K : Chunk → Rd → List SV → CTree) :
  pNx N q (RD s t) n es x cb mb d m i j l K = K (dLx (.qs q 1 0 (l.length + (m - i).toNat)) (nz cb 37 d.cl) (nz mb 136 d.cm) d) (RD (s + 4 * (m - i).toNat) t) (l ++ wd es s (m - i).toNat) := by
 unfold pNx
 rw [show Nat.blt (m - i).toNat N = true by rw [Nat.blt_eq]; exact hN, dec_iff.2 ⟨by subst hj; rfl, by simpa [RD] using h, hl⟩]
 rfl
theorem pOk.next {s t n : Nat} {es : List SV} {m i : Int} {z : Nat} (h : pOk z s t n es m i) (hlt : i < m) : pOk z (s + z) t n es m (i + 1) ∧ s + z ≤ t ∧ (m - i).toNat = (m - (i + 1)).toNat + 1 := by
 obtain ⟨⟨h1, h2, h3, h4, h5⟩, h6, h7, h8, h9⟩ := h
 have e : (m - i).toNat = (m - (i + 1)).toNat + 1 := by omega
 rw [e, Nat.mul_succ] at h9
 exact ⟨⟨⟨h1, h2, h3, by omega, h5⟩, by omega, by omega, h8, by omega⟩, by omega, e⟩
theorem pt_valid : ValidL Tryz.prog e54 := loop_valid2 (κ := κy) (ι := ιy) (T := ltab []) (sp := true) (fuel := 300) (c := c54) (μ := ptM) (openT_ok noNumTry mixTry pttOk 300 5) mixTry ltab_nil (show fillC (ltab []) c54 = c54 by kernel_rfl) (by
 intro N args H v' ups' hbt h
 unfold e54 pt_s at h
 simp only [] at h
 split at h
 · rename_i m i cs x1 off fl cd a e n x2 x3 x4 es
   split at h
   · rename_i pb cb mb d hd
     rw [crun_ite] at h
     cases hc : dec _ with
     | false => rw [hc] at h; cases h
     | true =>
      rw [hc, cond_true] at h
      obtain ⟨hH, hp, hlt⟩ := dec_iff.1 hc
      rw [hH]
      have hrd := pt_a N (RD a.toNat e.toNat) n es ⟨off, fl, cd⟩ cb mb d m i
      generalize a.toNat = s at *
      generalize e.toNat = t at *
      obtain ⟨q1, q2, q3⟩ := hp.next hlt
      have hr := hp.1.rd
      obtain ⟨⟨h1, h2, h3, h4, h5⟩, h6, h7, h8, h9⟩ := hp
      obtain ⟨k1, k2⟩ := tkN_rng h1.ok s 4
      have hN : Nat.blt (m - i).toNat (N + 1) = true := hbt
      rw [Nat.blt_eq] at hN
      rw [decide_eq_true hlt, cond_true, dec_iff.2 ⟨hr, h2⟩, cond_true, adv_RD q2, num_RD q2, w3_id k1 (Int.lt_of_lt_of_le k2 (by decide)), w64_id (by omega) (by omega), pNx_ok (j := 1) (l := [.int .u32 (tkN es s 4)]) (by omega) rfl (by simp; omega) q1] at hrd
      cases h
      refine .inl ⟨_, congrArg crun hrd, fun x => ?_⟩
      rw [wd_one (j := (m - i).toNat) (by omega), show (m - i).toNat - 1 = (m - (i + 1)).toNat by omega, show (m - i).toNat = (m - (i + 1)).toNat + 1 by omega, show s + 4 * ((m - (i + 1)).toNat + 1) = s + 4 + 4 * (m - (i + 1)).toNat by omega, Nat.add_comm _ 1]
      rfl
   · cases h
 · rename_i m i cs l x1 off fl cd a e n x2 x3 x4 es
   split at h
   · rename_i pb cb mb d hd
     rw [crun_ite] at h
     cases hc : dec _ with
     | false => rw [hc] at h; cases h
     | true =>
      rw [hc, cond_true] at h
      obtain ⟨hH, hp, hl⟩ := dec_iff.1 hc
      rw [hH]
      have hrd := pt_b N (RD a.toNat e.toNat) n es ⟨off, fl, cd⟩ cb mb d m i l.length l
      generalize a.toNat = s at *
      generalize e.toNat = t at *
      by_cases hlt : i < m
      · obtain ⟨q1, q2, q3⟩ := hp.next hlt
        have hr := hp.1.rd
        obtain ⟨⟨h1, h2, h3, h4, h5⟩, h6, h7, h8, h9⟩ := hp
        obtain ⟨k1, k2⟩ := tkN_rng h1.ok s 4
        have hN : Nat.blt (m - i).toNat (N + 1) = true := hbt
        rw [Nat.blt_eq] at hN
        rw [decide_eq_true hlt, cond_true, dec_iff.2 ⟨hr, h2⟩, cond_true, decide_eq_true rfl, cond_true, decide_eq_true (show l.length + 1 ≤ 9223372036854775807 by omega), decide_eq_true (show (l.length + 1) * 4 ≤ 140737488355328 by omega), Bool.and_self, cond_true, adv_RD q2, num_RD q2, w3_id k1 (Int.lt_of_lt_of_le k2 (by decide)), w64_id (by omega) (by omega), pNx_ok (j := l.length + 1) (l := l ++ [SV.int IntKind.u32 (tkN es s 4)]) (by omega) (by simp) (by simp; omega) q1] at hrd
        cases h
        refine .inl ⟨_, congrArg crun hrd, fun x => ?_⟩
        rw [wd_one (j := (m - i).toNat) (by omega), show (m - i).toNat - 1 = (m - (i + 1)).toNat by omega, show (m - i).toNat = (m - (i + 1)).toNat + 1 by omega, show s + 4 * ((m - (i + 1)).toNat + 1) = s + 4 + 4 * (m - (i + 1)).toNat by omega, List.length_append, List.append_assoc]
        simp only [List.length_singleton, List.singleton_append, Nat.add_assoc, Nat.add_comm 1]
      · have hm : m = i := by have := hp.2.2.1; omega
        subst hm
        rw [decide_eq_false hlt, cond_false] at hrd
        cases h
        refine .inr ⟨_, _, congrArg crun hrd, ?_⟩
        rw [show (m - m).toNat = 0 by omega]
        simp only [wd, List.append_nil, Nat.add_zero, Nat.mul_zero]
        exact pB_ren
   · cases h
 · cases h)
end Go.Proofs.YtnlmhpancboddaaGreat
/- Attributes are read: how many elements a value has. -/
namespace Go.Proofs.YtnlmhpancboddaaGreat
open Go.Am
set_option maxRecDepth 100000
def elQ (L z : Int) : Int := IntKind.i64.wrap (L.tdiv z)
def elB (L z k : Int) : Bool := bif (bif decide (elQ L z > 0) then decide (elQ L z ≤ k) else false) then L == IntKind.i64.wrap (elQ L z * z) else false
noncomputable abbrev κgt := tbl [(49, un_s 1), (70, un_s 4), (126, byP_s)]
theorem gtOk : KOk Tryz.prog κgt := tbl_cons u8_n (tbl_cons u32_n (tbl_cons byP_k ok0))
noncomputable abbrev κht := openT Tryz.prog κgt 300 5
noncomputable abbrev ιht : Nat → Bool := fun g => inl κgt g && hasBody Tryz.prog g
noncomputable abbrev T54 : LTab := ltab [("p", e54)]
noncomputable abbrev m54 : Code := markC [(8, "p")] body54
noncomputable def pth_b : CSumm := bodyCL Tryz.prog κht ιht T54 true 300 Tryz.f114 m54
theorem pth_k0 : Known Tryz.prog 114 pth_b := ⟨⟨Tryz.f114, Tryz.func114, noNum_at noNumTry Tryz.func114, rfl⟩, bodyL_valid (openT_ok noNumTry mixTry gtOk 300 5) mixTry (ltab_cons pt_valid ltab_nil) Tryz.func114 (show Tryz.f114.body = some (fillC T54 m54) by kernel_rfl)⟩
def pH (r : Rd) (n : Nat) (es : List SV) (cb mb : Bool) (d : Ds) : HpL := [(0, dLx .nils (nz cb 37 d.cl) (nz mb 136 d.cm) d), (1, rCk 2 r n), (2, .seq 5 es)]
def pAr (x : Ax) : List SV := [.ptr 0 0, .agg [.ptr 1 0, .int .i64 x.off, .int .u8 x.fl, .int .u8 x.cd]]
noncomputable def pLp (r : Rd) (n : Nat) (es : List SV) (x : Ax) (cb mb : Bool) (d : Ds) (m : Int) : CTree :=
 bif dec (pA r n es x cb mb d = pA (RD r.at_.toNat r.end_.toNat) n es x cb mb d ∧ pOk 4 r.at_.toNat r.end_.toNat n es m 0 ∧ 0 < m) then
  .ret (.bool true) [(0, some (dLx (.qs 3 1 0 (m - 0).toNat) (nz cb 37 d.cl) (nz mb 136 d.cm) d)), (1, some (rCk 2 (RD (r.at_.toNat + 4 * (m - 0).toNat) r.end_.toNat) n)), (3, some (.seq 36 (wd es r.at_.toNat (m - 0).toNat)))] else .fail
theorem pth_t (r : Rd) (n : Nat) (es : List SV) (x : Ax) (cb mb : Bool) (d : Ds) : pth_b (pAr x) (pH r n es cb mb d) =
 bif lfI r == 0 then .ret (.bool true) [] else ruC r n es (ruC (r.adv 1) n es (
  bif (bif (bif r.num es 1 != 2 then true else !(elB (lfI ((r.adv 1).adv 1)) 4 32)) then true else elQ (lfI ((r.adv 1).adv 1)) 4 != w64 ((r.adv 1).num es 1)) then .ret (.bool false) [(1, some (rCk 2 ((r.adv 1).adv 1) n))]
  else pLp ((r.adv 1).adv 1) n es x cb mb d (elQ (lfI ((r.adv 1).adv 1)) 4))) := by cases cb <;> cases mb <;> kernel_rfl
end Go.Proofs.YtnlmhpancboddaaGreat
/- Attributes are read: a path. -/
namespace Go.Proofs.YtnlmhpancboddaaGreat
open Go.Am
set_option maxRecDepth 100000
def ptOk (v : List SV) : Bool := bif v.length == 0 then true else bif decide (2 ≤ v.length) then bif (bif (bif dg v 0 != 2 then true else !(elB ((v.length - 2 : Nat) : Int) 4 32)) then true else elQ ((v.length - 2 : Nat) : Int) 4 != dg v 1) then false else true else false
def ptG (v : List SV) (d : Ds) : Ds := { d with path := bif v.length == 0 then [] else wd v 2 (elQ ((v.length - 2 : Nat) : Int) 4).toNat }
theorem elQ_n (k : Nat) (hk : k ≤ 1000000) (z : Nat) (hz : 1 ≤ z) : elQ (k : Int) (z : Int) = ((k / z : Nat) : Int) := by
 have h1 : k / z ≤ k := Nat.div_le_self k z
 unfold elQ
 rw [Int.tdiv_eq_ediv_of_nonneg (by omega), ← Int.natCast_ediv]
 generalize k / z = q at *
 exact w64_id (by omega) (by omega)
theorem elB_n {k : Nat} (hk : k ≤ 1000000) {z m : Nat} (hz : 1 ≤ z) : elB (k : Int) (z : Int) (m : Int) = true ↔ 0 < k / z ∧ k / z ≤ m ∧ k = k / z * z := by
 have h1 : k / z ≤ k := Nat.div_le_self k z
 have h2 : k / z * z ≤ k := Nat.div_mul_le_self k z
 unfold elB
 rw [elQ_n k hk z hz, ← Int.natCast_mul]
 generalize k / z * z = y at *
 generalize k / z = q at *
 rw [w64_id (by omega) (by omega)]
 by_cases c1 : 0 < q
 · rw [decide_eq_true (show ((q : Nat) : Int) > 0 by omega), cond_true]
   by_cases c2 : q ≤ m
   · rw [decide_eq_true (show ((q : Nat) : Int) ≤ m by omega), cond_true]
     rw [beq_iff_eq, Int.natCast_inj]
     exact ⟨fun h => ⟨c1, c2, h⟩, fun h => h.2.2⟩
   · rw [decide_eq_false (show ¬ ((q : Nat) : Int) ≤ m by omega)]
     exact ⟨fun h => (by cases h), fun h => absurd h.2.1 c2⟩
 · rw [decide_eq_false (show ¬ ((q : Nat) : Int) > 0 by omega)]
   exact ⟨fun h => (by cases h), fun h => absurd h.1 c1⟩
theorem wd_sl {es : List SV} {s m : Nat} : ∀ (k j : Nat), j + 4 * k ≤ m → wd es (s + j) k = wd (sl es s m) j k
 | 0, _, _ => rfl
 | k + 1, j, h => by
  rw [wd, wd, tkN_slj (m := m) 4 (by omega), Nat.add_assoc, wd_sl (m := m) k (j + 4) (by omega)]
noncomputable def pth_s : CSumm := fun args H => match args, H with
 | [.ptr 0 0, .agg [.ptr 1 0, .int .i64 off, .int .u8 fl, .int .u8 cd]], [(0, .cells 177 cs), (1, .cells 157 [.int .i64 a, .int .i64 e, .qs 2 1 0 n, _, _, _]), (2, .seq 5 es)] =>
  match dP cs with
  | some (pb, cb, mb, d) => .ite (dec (H = pH (RD a.toNat e.toNat) n es cb mb d ∧ okV es n a.toNat e.toNat ∧ pb = true))
    (.ite (ptOk (vl es a.toNat e.toNat)) (.ret (.bool true) [(0, some (dC false cb mb (ptG (vl es a.toNat e.toNat) d))), (1, none)]) (.ret (.bool false) [(0, some jk), (1, none)])) .fail
  | none => .fail
 | _, _ => .fail
theorem told01 {H : HpL} {c c3 : Chunk} (h3 : CoC Tryz.prog 0 c3 c) {ups : List (Nat × Option Chunk)} (hu : updF ups H.get 0 = some c3) (ho : ∀ x, x ≠ 0 → x ≠ 1 → updF ups H.get x = H.get x) : ∀ x c', updF [(0, some c), (1, none)] H.get x = some c' → ∃ c, updF ups H.get x = some c ∧ CoC Tryz.prog x c c' := by
 intro x c' hx
 simp only [updF] at hx
 by_cases h1 : x = 1
 · rw [if_pos h1] at hx; cases hx
 · rw [if_neg h1] at hx
   by_cases h0 : x = 0
   · subst h0; rw [if_pos rfl] at hx; cases hx; exact ⟨c3, hu, h3⟩
   · rw [if_neg h0] at hx; exact ⟨c', by rw [ho x h0 h1]; exact hx, .rfl'⟩
theorem jk_x {q : SV} {cb mb : Bool} {d : Ds} {x : Nat} : CoC Tryz.prog x (dLx q (nz cb 37 d.cl) (nz mb 136 d.cm) d) jk := .cells (coL_jk [.int .i64 d.ori, q, .int .u32 d.nx, .bool d.hm, .int .u32 d.med, .bool d.hp, .int .u32 d.prf, .bool d.ho, .int .u32 d.orr, nz cb 37 d.cl, nz mb 136 d.cm, .int .i64 d.tk, .int .u32 d.tl, .int .u32 d.tr, .int .u32 d.tg, .psl 88 d.rch, .psl 88 d.unr])
theorem pth_k : Known Tryz.prog 114 pth_s := known_told pth_k0 (by
 intro args H v' ups' h
 unfold pth_s at h
 split at h
 · rename_i off fl cd cs a e n x1 x2 x3 es
   split at h
   · rename_i pb cb mb d hd
     rw [crun_ite] at h
     cases hc : dec _ with
     | false => rw [hc] at h; cases h
     | true =>
      rw [hc, cond_true, crun_ite] at h
      obtain ⟨hH, ho, hp⟩ := dec_iff.1 hc
      rw [hH]
      have ht := pth_t (RD a.toNat e.toNat) n es ⟨off, fl, cd⟩ cb mb d
      generalize a.toNat = s at *
      generalize e.toNat = t at *
      have hl := ho.len
      have hr := ho.rd
      have hoo := ho
      obtain ⟨h1, h2, h3, h4, h5⟩ := ho
      have hv : byl (vl es s t) := h1.sl _ _
      rw [ruC_ok hr h2, ruC_ok (hr.adv 1) h2, show lfI (RD s t) = ((t - s : Nat) : Int) by have := lfI_v (s := s) (t := t) (k := 0) (by omega) (by omega); simpa using this] at ht
      have no : ∀ {r' : Rd}, ptOk (vl es s t) = false → crun (pth_b (pAr ⟨off, fl, cd⟩) (pH (RD s t) n es cb mb d)) = some (.bool false, [(1, some (rCk 2 r' n))]) →
        ∃ v ups, crun (pth_b [.ptr 0 0, .agg [.ptr 1 0, .int .i64 off, .int .u8 fl, .int .u8 cd]] (pH (RD s t) n es cb mb d)) = some (v, ups) ∧ (Frozen Tryz.prog (pH (RD s t) n es cb mb d) v ups v' ups' ∨ Am.Told Tryz.prog (pH (RD s t) n es cb mb d) v ups v' ups') := by
       intro r' hok hr'
       rw [hok] at h
       cases h
       exact ⟨_, _, hr', .inr ⟨.rfl', told01 (c3 := dLx .nils (nz cb 37 d.cl) (nz mb 136 d.cm) d) jk_x rfl (fun x h0 h1 => by simp only [updF, h1, if_false])⟩⟩
      by_cases hz : t - s = 0
      · rw [show (((t - s : Nat) : Int) == 0) = true by simp; omega] at ht
        have hz' : (vl es s t).length = 0 := by omega
        rw [show ptOk (vl es s t) = true by unfold ptOk; rw [hz']; rfl, show ptG (vl es s t) d = { d with path := [] } by unfold ptG; rw [hz']; rfl] at h
        cases h
        refine ⟨_, _, congrArg crun ht, .inr ⟨.rfl', told01 (c3 := dLx .nils (nz cb 37 d.cl) (nz mb 136 d.cm) d) ?_ rfl (fun x h0 h1 => rfl)⟩⟩
        exact .cells (.cons .rfl' (.cons .nils .rfl'))
      · rw [show (((t - s : Nat) : Int) == 0) = false by simp; omega, cond_false] at ht
        have hz' : ((vl es s t).length == 0) = false := by rw [hl]; simp; omega
        by_cases h2' : s + 2 ≤ t
        · have a1 : (RD s t).adv 1 = RD (s + 1) t := adv_v (s := s) 0 1 (by omega)
          have a2 : (RD (s + 1) t).adv 1 = RD (s + 2) t := adv_v 1 1 (by omega)
          have m0 : (RD s t).num es 1 = dg (vl es s t) 0 := by rw [← tk1]; exact num_v (n := n) (s := s) 0 1 (by omega)
          have m1 : (RD (s + 1) t).num es 1 = dg (vl es s t) 1 := by rw [← tk1]; exact num_v (n := n) 1 1 (by omega)
          obtain ⟨q1, q2⟩ := hv.ok 1
          have hok : ptOk (vl es s t) = bif (bif (bif dg (vl es s t) 0 != 2 then true else !(elB ((t - s - 2 : Nat) : Int) 4 32)) then true else elQ ((t - s - 2 : Nat) : Int) 4 != dg (vl es s t) 1) then false else true := by
           unfold ptOk; rw [hz', hl, cond_false, decide_eq_true (show 2 ≤ t - s by omega), cond_true]
          rw [a1, a2, m0, m1, show w64 (dg (vl es s t) 1) = dg (vl es s t) 1 from w64_id (by omega) (by omega), lfI_v h2' (by omega)] at ht
          cases hb : (bif (bif dg (vl es s t) 0 != 2 then true else !(elB ((t - s - 2 : Nat) : Int) 4 32)) then true else elQ ((t - s - 2 : Nat) : Int) 4 != dg (vl es s t) 1) with
          | true =>
           rw [hb] at ht hok
           exact no hok (congrArg crun ht)
          | false =>
           rw [hb] at ht hok
           rw [cond_false] at ht hok
           have hB : elB ((t - s - 2 : Nat) : Int) 4 32 = true := by
            cases hx : elB ((t - s - 2 : Nat) : Int) 4 32 with
            | true => rfl
            | false => rw [hx] at hb; cases hy : dg (vl es s t) 0 != 2 <;> rw [hy] at hb <;> cases hb
           obtain ⟨b1, b2, b3⟩ := (elB_n (k := t - s - 2) (by omega) (z := 4) (m := 32) (by omega)).1 hB
           have hq : elQ ((t - s - 2 : Nat) : Int) 4 = (((t - s - 2) / 4 : Nat) : Int) := elQ_n _ (by omega) 4 (by omega)
           rw [hok] at h
           have hG : ptG (vl es s t) d = { d with path := wd es (s + 2) ((t - s - 2) / 4) } := by
            unfold ptG
            rw [hz', hl, hq, wd_sl (es := es) (s := s) (m := t - s) ((t - s - 2) / 4) 2 (by omega)]
            rfl
           rw [hG] at h
           generalize hk : (t - s - 2) / 4 = k at *
           unfold pLp at ht
           rw [hq, dec_iff.2 ⟨rfl, ⟨⟨h1, h2, h3, by simp [RD]; omega, by simpa [RD] using h5⟩, by omega, by omega, by omega, by simp [RD]; omega⟩, by omega⟩, cond_true] at ht
           cases h
           refine ⟨_, _, congrArg crun ht, .inl ⟨3, 36, wd es (s + 2) k, rfl, .rfl', fun x c' hx => ?_⟩⟩
           simp only [updF] at hx
           by_cases x1 : x = 1
           · rw [if_pos x1] at hx; cases hx
           · rw [if_neg x1] at hx
             by_cases x0 : x = 0
             · subst x0; rw [if_pos rfl] at hx; cases hx
               exact ⟨by decide, _, rfl, .cells (.cons .rfl' (.cons (.qs (by rw [wd_len]; omega)) .rfl'))⟩
             · rw [if_neg x0] at hx
               have x3 : x ≠ 3 := by rintro rfl; cases hx
               exact ⟨x3, c', by simp only [updF, x0, x1, x3, if_false]; exact hx, .rfl'⟩
        · have a1 : (RD s t).adv 1 = RD (s + 1) t := adv_v (s := s) 0 1 (by omega)
          have a2 : (RD (s + 1) t).adv 1 = ⟨(s + 1 : Nat), t, 4, (s + 1 : Nat)⟩ := adv_few (by omega)
          have hts : t = s + 1 := by omega
          have hok : ptOk (vl es s t) = false := by
           unfold ptOk; rw [hz', hl, cond_false, decide_eq_false (show ¬ 2 ≤ t - s by omega)]; rfl
          rw [a1, a2] at ht
          have hlf : lfI ⟨(s + 1 : Nat), t, 4, (s + 1 : Nat)⟩ = 0 := by
           unfold lfI; simp only []; rw [show ((t : Int) - ((s + 1 : Nat) : Int)) = 0 by omega]; rfl
          rw [hlf, show elB 0 4 32 = false by decide] at ht
          refine no (r' := ⟨(s + 1 : Nat), t, 4, (s + 1 : Nat)⟩) hok ((congrArg crun ht).trans ?_)
          cases (RD s t).num es 1 != 2 <;> rfl
   · cases h
 · cases h)
theorem told_sw {H : HpL} {c : Chunk} : ∀ x c', updF [(3, some c), (0, none)] H.get x = some c' → ∃ c1, updF [(0, none), (3, some c)] H.get x = some c1 ∧ CoC Tryz.prog x c1 c' := by
 intro x c' hx
 refine ⟨c', ?_, .rfl'⟩
 simp only [updF] at hx ⊢
 by_cases h0 : x = 0
 · rw [if_pos h0] at hx; cases hx
 · rw [if_neg h0] at hx ⊢; exact hx
theorem pth_c (r : Rd) (n : Nat) (es : List SV) (off fl cd : Int) (cb mb : Bool) (d : Ds) : opn (tbl [(114, pth_s)]) Tryz.f113 (flA off fl cd) (flH r n es true cb mb d) =
 bif dec (pH r n es cb mb d = pH (RD r.at_.toNat r.end_.toNat) n es cb mb d ∧ okV es n r.at_.toNat r.end_.toNat ∧ true = true) then
  bif ptOk (vl es r.at_.toNat r.end_.toNat) then .ret (.bool true) [(0, none), (3, some (dC false cb mb (ptG (vl es r.at_.toNat r.end_.toNat) d)))] else .ret (.bool false) [(0, none), (3, some jk)] else .fail := by cases cb <;> cases mb <;> kernel_rfl
theorem path_k : Known Tryz.prog 113 (fl_s (fun pb _ _ => pb) ptOk ptG (fun _ => false) id id) := fl_of (openKnown (tbl_cons pth_k ok0) Tryz.func113 rfl) (by
 intro s t n es off fl cd pb cb mb d ho hp
 have hpb : pb = true := hp
 subst hpb
 have ht := pth_c (RD s t) n es off fl cd cb mb d
 rw [dec_iff.2 ⟨rfl, ho, rfl⟩, cond_true] at ht
 change _ = bif ptOk (vl es s t) then CTree.ret (.bool true) [(0, none), (3, some (dC false cb mb (ptG (vl es s t) d)))] else CTree.ret (.bool false) [(0, none), (3, some jk)] at ht
 cases hok : ptOk (vl es s t) with
 | true => rw [hok] at ht; exact ⟨_, _, congrArg crun ht, .inr ⟨.rfl', told_sw⟩⟩
 | false => rw [hok] at ht; exact ⟨_, _, congrArg crun ht, .inr ⟨.rfl', told_sw⟩⟩)
end Go.Proofs.YtnlmhpancboddaaGreat
/- Attributes are read: clusters, the loop's round. -/
namespace Go.Proofs.YtnlmhpancboddaaGreat
open Go.Am
set_option maxRecDepth 100000
noncomputable def body58 : Code := Tryz.f118.body.getD .skip
noncomputable def c58 : Code := (loopAt 3 body58).getD .skip
def klX (q : SV) (b1 b2 : Bool) (d : Ds) : Chunk := dLx (nz b1 36 d.path) q (nz b2 136 d.cm) d
def klA (r : Rd) (n : Nat) (es : List SV) (x : Ax) (b1 b2 : Bool) (d : Ds) : HpL := [(0, .cells 203 [.ptr 1 0]), (1, klX .nils b1 b2 d), (2, aC 3 x), (3, rCk 4 r n), (4, .seq 5 es)]
def klB (r : Rd) (n : Nat) (es : List SV) (x : Ax) (b1 b2 : Bool) (d : Ds) (j : Nat) (l : List SV) : HpL := [(0, .cells 203 [.ptr 1 0]), (1, klX (.qs 2 1 0 j) b1 b2 d), (2, .seq 37 l), (3, aC 4 x), (4, rCk 5 r n), (5, .seq 5 es)]
noncomputable def kl_s : CSumm := fun args H => match args, H with
 | [.ptr 0 0, .ptr 2 0, .int .i64 m, .bool ok, .int .i64 i], [(0, .cells 203 _), (1, .cells 177 cs), (2, .cells 182 [_, .int .i64 off, .int .u8 fl, .int .u8 cd]), (3, .cells 157 [.int .i64 a, .int .i64 e, .qs 4 1 0 n, _, _, _]), (4, .seq 5 es)] =>
  match dQ cs with
  | some (b1, _, b2, d) => .ite (dec (H = klA (RD a.toNat e.toNat) n es ⟨off, fl, cd⟩ b1 b2 d))
    (.ite ok (.ite (dec (pOk 4 a.toNat e.toNat n es m i ∧ i < m)) (.ret (.tup [.int .i64 2, .bool true]) [(1, some (klX (.qs 5 1 0 (m - i).toNat) b1 b2 d)), (3, some (rCk 4 (RD (a.toNat + 4 * (m - i).toNat) e.toNat) n)), (5, some (.seq 37 (wd es a.toNat (m - i).toNat)))]) .fail)
     (.ret (.tup [.int .i64 2, .bool false]) [])) .fail
  | none => .fail
 | [.ptr 0 0, .ptr 3 0, .int .i64 m, .bool ok, .int .i64 i], [(0, .cells 203 _), (1, .cells 177 cs), (2, .seq 37 l), (3, .cells 182 [_, .int .i64 off, .int .u8 fl, .int .u8 cd]), (4, .cells 157 [.int .i64 a, .int .i64 e, .qs 5 1 0 n, _, _, _]), (5, .seq 5 es)] =>
  match dQ cs with
  | some (b1, _, b2, d) => .ite (dec (H = klB (RD a.toNat e.toNat) n es ⟨off, fl, cd⟩ b1 b2 d l.length l ∧ ok = true ∧ pOk 4 a.toNat e.toNat n es m i ∧ l.length + (m - i).toNat ≤ 2000))
    (.ret (.tup [.int .i64 2, .bool true]) [(1, some (klX (.qs 6 1 0 (l.length + (m - i).toNat)) b1 b2 d)), (2, none), (4, some (rCk 5 (RD (a.toNat + 4 * (m - i).toNat) e.toNat) n)), (6, some (.seq 37 (l ++ wd es a.toNat (m - i).toNat)))]) .fail
  | none => .fail
 | _, _ => .fail
def klM : List SV → HpL → Nat
 | [_, _, .int _ m, _, .int _ i], _ => (m - i).toNat
 | _, _ => 0
noncomputable def e58 : LEnt := { ins := [1, 2, 4, 5, 6], outs := [5], keep := [], size := 36, code := c58, s := kl_s }
noncomputable def klNx (N q : Nat) (r : Rd) (n : Nat) (es : List SV) (x : Ax) (b1 b2 : Bool) (d : Ds) (ok : Bool) (m i : Int) (j : Nat) (l : List SV) (K : Chunk → Rd → List SV → CTree) : CTree :=
 bif Nat.blt (m - i).toNat N then bif dec (klB r n es x b1 b2 d j l = klB (RD r.at_.toNat r.end_.toNat) n es x b1 b2 d l.length l ∧ ok = true ∧ pOk 4 r.at_.toNat r.end_.toNat n es m i ∧ l.length + (m - i).toNat ≤ 2000) then
  K (klX (.qs q 1 0 (l.length + (m - i).toNat)) b1 b2 d) (RD (r.at_.toNat + 4 * (m - i).toNat) r.end_.toNat) (l ++ wd es r.at_.toNat (m - i).toNat)
 else .fail else .fail
noncomputable def klEl (r : Rd) (n : Nat) (es : List SV) (K : SV → CTree) : CTree := bif dec (OkRd r es ∧ n = es.length) then K (.int .u32 (w3 (r.num es 4))) else .fail
theorem kl_a (N : Nat) (r : Rd) (n : Nat) (es : List SV) (x : Ax) (b1 b2 : Bool) (d : Ds) (ok : Bool) (m i : Int) : loopOnce Tryz.prog κy ιy (ltab []) true 300 e58 { e58 with s := boundT klM kl_s N } c58 [.ptr 0 0, .ptr 2 0, .int .i64 m, .bool ok, .int .i64 i] (klA r n es x b1 b2 d) =
 bif (bif ok then decide (i < m) else false) then klEl r n es (fun v => klNx N 5 (r.adv 4) n es x b1 b2 d ok m (IntKind.i64.wrap (i + 1)) 1 [v] (fun c r' l' => .ret (.tup [.int .i64 2, .bool true]) [(1, some c), (3, some (rCk 4 r' n)), (5, some (.seq 37 l'))]))
 else .ret (.tup [.int .i64 2, .bool ok]) [] := by cases b1 <;> cases b2 <;> kernel_rfl
theorem kl_b (N : Nat) (r : Rd) (n : Nat) (es : List SV) (x : Ax) (b1 b2 : Bool) (d : Ds) (ok : Bool) (m i : Int) (j : Nat) (l : List SV) : loopOnce Tryz.prog κy ιy (ltab []) true 300 e58 { e58 with s := boundT klM kl_s N } c58 [.ptr 0 0, .ptr 3 0, .int .i64 m, .bool ok, .int .i64 i] (klB r n es x b1 b2 d j l) =
 bif (bif ok then decide (i < m) else false) then klEl r n es (fun v => bif decide (j = l.length) then bif decide (l.length + 1 ≤ 9223372036854775807) && decide ((l.length + 1) * 4 ≤ 140737488355328) then klNx N 6 (r.adv 4) n es x b1 b2 d ok m (IntKind.i64.wrap (i + 1)) (l.length + 1) (l ++ [v]) (fun c r' l' => .ret (.tup [.int .i64 2, .bool true]) [(1, some c), (2, none), (4, some (rCk 5 r' n)), (6, some (.seq 37 l'))])
 else .fail else .fail) else .ret (.tup [.int .i64 2, .bool ok]) [] := by cases b1 <;> cases b2 <;> kernel_rfl
end Go.Proofs.YtnlmhpancboddaaGreat
/- Attributes are read: communities, the loop's round. -/
namespace Go.Proofs.YtnlmhpancboddaaGreat
open Go.Am
set_option maxRecDepth 100000
noncomputable def body66 : Code := Tryz.f125.body.getD .skip
noncomputable def c66 : Code := (loopAt 3 body66).getD .skip
def kmX (q : SV) (b1 b2 : Bool) (d : Ds) : Chunk := dLx (nz b1 36 d.path) (nz b2 37 d.cl) q d
def kmA (r : Rd) (n : Nat) (es : List SV) (x : Ax) (b1 b2 : Bool) (d : Ds) : HpL := [(0, .cells 203 [.ptr 1 0]), (1, kmX .nils b1 b2 d), (2, aC 3 x), (3, rCk 4 r n), (4, .seq 5 es)]
def kmB (r : Rd) (n : Nat) (es : List SV) (x : Ax) (b1 b2 : Bool) (d : Ds) (j : Nat) (l : List SV) : HpL := [(0, .cells 203 [.ptr 1 0]), (1, kmX (.qs 2 8 0 j) b1 b2 d), (2, .seq 136 l), (3, aC 4 x), (4, rCk 5 r n), (5, .seq 5 es)]
noncomputable def km_s : CSumm := fun args H => match args, H with
 | [.ptr 0 0, .ptr 2 0, .int .i64 m, .bool ok, .int .i64 i], [(0, .cells 203 _), (1, .cells 177 cs), (2, .cells 182 [_, .int .i64 off, .int .u8 fl, .int .u8 cd]), (3, .cells 157 [.int .i64 a, .int .i64 e, .qs 4 1 0 n, _, _, _]), (4, .seq 5 es)] =>
  match dQ cs with
  | some (b1, b2, _, d) => .ite (dec (H = kmA (RD a.toNat e.toNat) n es ⟨off, fl, cd⟩ b1 b2 d))
    (.ite ok (.ite (dec (pOk 8 a.toNat e.toNat n es m i ∧ i < m)) (.ret (.tup [.int .i64 2, .bool true]) [(1, some (kmX (.qs 5 8 0 (m - i).toNat) b1 b2 d)), (3, some (rCk 4 (RD (a.toNat + 8 * (m - i).toNat) e.toNat) n)), (5, some (.seq 136 (cw es a.toNat (m - i).toNat)))]) .fail)
     (.ret (.tup [.int .i64 2, .bool false]) [])) .fail
  | none => .fail
 | [.ptr 0 0, .ptr 3 0, .int .i64 m, .bool ok, .int .i64 i], [(0, .cells 203 _), (1, .cells 177 cs), (2, .seq 136 l), (3, .cells 182 [_, .int .i64 off, .int .u8 fl, .int .u8 cd]), (4, .cells 157 [.int .i64 a, .int .i64 e, .qs 5 1 0 n, _, _, _]), (5, .seq 5 es)] =>
  match dQ cs with
  | some (b1, b2, _, d) => .ite (dec (H = kmB (RD a.toNat e.toNat) n es ⟨off, fl, cd⟩ b1 b2 d l.length l ∧ ok = true ∧ pOk 8 a.toNat e.toNat n es m i ∧ l.length + (m - i).toNat ≤ 2000))
    (.ret (.tup [.int .i64 2, .bool true]) [(1, some (kmX (.qs 6 8 0 (l.length + (m - i).toNat)) b1 b2 d)), (2, none), (4, some (rCk 5 (RD (a.toNat + 8 * (m - i).toNat) e.toNat) n)), (6, some (.seq 136 (l ++ cw es a.toNat (m - i).toNat)))]) .fail
  | none => .fail
 | _, _ => .fail
def kmM : List SV → HpL → Nat
 | [_, _, .int _ m, _, .int _ i], _ => (m - i).toNat
 | _, _ => 0
noncomputable def e66 : LEnt := { ins := [1, 2, 4, 5, 6], outs := [5], keep := [], size := 37, code := c66, s := km_s }
noncomputable def kmNx (N q : Nat) (r : Rd) (n : Nat) (es : List SV) (x : Ax) (b1 b2 : Bool) (d : Ds) (ok : Bool) (m i : Int) (j : Nat) (l : List SV) (K : Chunk → Rd → List SV → CTree) : CTree :=
 bif Nat.blt (m - i).toNat N then bif dec (kmB r n es x b1 b2 d j l = kmB (RD r.at_.toNat r.end_.toNat) n es x b1 b2 d l.length l ∧ ok = true ∧ pOk 8 r.at_.toNat r.end_.toNat n es m i ∧ l.length + (m - i).toNat ≤ 2000) then
  K (kmX (.qs q 8 0 (l.length + (m - i).toNat)) b1 b2 d) (RD (r.at_.toNat + 8 * (m - i).toNat) r.end_.toNat) (l ++ cw es r.at_.toNat (m - i).toNat)
 else .fail else .fail
noncomputable def kmEl (r : Rd) (n : Nat) (es : List SV) (K : SV → CTree) : CTree := bif dec (OkRd r es ∧ n = es.length ∧ (0 : Int) ≤ 8 ∧ (8 : Int) ≤ 1000000) then bif decide (8 ≤ (r.sub es 8).length) then K (.agg (bvals (r.sub es 8) 0 8)) else .fail else .fail
theorem km_a (N : Nat) (r : Rd) (n : Nat) (es : List SV) (x : Ax) (b1 b2 : Bool) (d : Ds) (ok : Bool) (m i : Int) : loopOnce Tryz.prog κy ιy (ltab []) true 300 e66 { e66 with s := boundT kmM km_s N } c66 [.ptr 0 0, .ptr 2 0, .int .i64 m, .bool ok, .int .i64 i] (kmA r n es x b1 b2 d) =
 bif (bif ok then decide (i < m) else false) then kmEl r n es (fun v => kmNx N 5 (r.adv 8) n es x b1 b2 d ok m (IntKind.i64.wrap (i + 1)) 1 [v] (fun c r' l' => .ret (.tup [.int .i64 2, .bool true]) [(1, some c), (3, some (rCk 4 r' n)), (5, some (.seq 136 l'))]))
 else .ret (.tup [.int .i64 2, .bool ok]) [] := by cases b1 <;> cases b2 <;> kernel_rfl
theorem km_b (N : Nat) (r : Rd) (n : Nat) (es : List SV) (x : Ax) (b1 b2 : Bool) (d : Ds) (ok : Bool) (m i : Int) (j : Nat) (l : List SV) : loopOnce Tryz.prog κy ιy (ltab []) true 300 e66 { e66 with s := boundT kmM km_s N } c66 [.ptr 0 0, .ptr 3 0, .int .i64 m, .bool ok, .int .i64 i] (kmB r n es x b1 b2 d j l) =
 bif (bif ok then decide (i < m) else false) then kmEl r n es (fun v => bif decide (j = l.length) then bif decide (l.length + 1 ≤ 9223372036854775807) && decide ((l.length + 1) * 8 ≤ 140737488355328) then kmNx N 6 (r.adv 8) n es x b1 b2 d ok m (IntKind.i64.wrap (i + 1)) (l.length + 1) (l ++ [v]) (fun c r' l' => .ret (.tup [.int .i64 2, .bool true]) [(1, some c), (2, none), (4, some (rCk 5 r' n)), (6, some (.seq 136 l'))])
 else .fail else .fail) else .ret (.tup [.int .i64 2, .bool ok]) [] := by cases b1 <;> cases b2 <;> kernel_rfl
end Go.Proofs.YtnlmhpancboddaaGreat
