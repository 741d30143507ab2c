/- 'AttrAny' answers true, whatever it is handed. No condition. -/
import Derived.Test.YtdgnhaacdpmclaaGreatPart26
set_option linter.unusedVariables false
set_option linter.unusedSimpArgs false
namespace Go.Proofs.YtdgnhaacdpmclaaGreat
open Go.Am Go.ChangeShapes Go.WideShapes Go.ChangeAt Go.RowKit Go.Joins
set_option maxRecDepth 100000
theorem atB_unk_byl {c : Int} {v : List SV} (hb : byl v) : byl (unk c v) :=
 byl_app (byl_cons (by decide) (by decide) (byl_cons (w8_rng _).1 (w8_rng _).2 (byl_cons (w8_rng _).1 (w8_rng _).2 byl_nil))) hb
theorem set_byl {l : List SV} (h : byl l) (i : Nat) : byl (l.set i (.int .u8 64)) := fun v hv => by
 rcases List.mem_or_eq_of_mem_set hv with h1 | h1
 · exact h v h1
 · exact ⟨64, h1, by decide, by decide⟩
theorem byl_take {l : List SV} (h : byl l) (n : Nat) : byl (l.take n) := fun v hv => h v (List.mem_of_mem_take hv)
theorem rdCq_ok {M : List SV} {m : Nat} (hb : byl M) (hm : m = M.length) (hl : m ≤ 1000000) (K : Int × Int × Ds → CTree) : rdCq M m K = K (rdQ M m) := by
 unfold rdCq; rw [dec_iff.2 ⟨hb, hm, hl⟩, cond_true]
theorem any_ok {a : At} {r u : List SV} (h : Vd a r u) (lr : r.length ≤ 20) (lu : u.length ≤ 20) {ord v : List SV} (c at_ : Int) (ho : ord.length ≤ 70) (hv : v.length ≤ 60) (hb : byl v) :
  any0 a r u ord c v at_ (allB a (nbs r) (nbs u)) (splL (allB a (nbs r) (nbs u)) 0) = .ret (.bool true) [] := by
 have hvl := h.vl lr lu
 obtain ⟨s1, s2⟩ := spl_all hvl
 have hal := all_le h lr lu
 have hgt := all_gt a (nbs r) (nbs u)
 have hlen := wk_len a (nbs r) (nbs u)
 have hne : 0 < (wk a (nbs r) (nbs u)).length := by
  rw [List.length_pos_iff]
  intro e
  have hr := rowsB_wr a (nbs r) (nbs u) allK
  rw [show allK.filter (fun k => wrB k a (nbs r) (nbs u)) = [] from e, rowsB_all] at hr
  rw [← hr] at hgt
  simp [rowsB] at hgt
 have hbB := h.byl
 unfold any0
 rw [dec_iff.2 ⟨s1, hbB, by omega, hgt⟩, cond_true, s2]
 obtain ⟨ls, e1, p1⟩ := swF_map (a := a) (R := nbs r) (U := nbs u) (ord := ord) (ord.length - (0 : Int).toNat) 0 (wk a (nbs r) (nbs u)) hne (by omega)
 have hll : ls.length = (wk a (nbs r) (nbs u)).length := p1.length_eq
 have hml : ((wk a (nbs r) (nbs u)).map (pcK a (nbs r) (nbs u))).length = ls.length := by rw [List.length_map, hll]
 rw [dec_iff.2 ⟨rfl, by omega, by omega, by omega, by omega, by omega⟩, cond_true, hml, show w64 ((ls.length : Int) + 1) = (ls.length : Int) + 1 from w64_id (by omega) (by omega), decide_eq_true (show 0 < (ls.length : Int) + 1 by omega), cond_true, e1]
 obtain ⟨t0, t1⟩ := pck_rng (x := at_) (n := (ls.length : Int) + 1) (by omega) (by omega)
 obtain ⟨t, ht⟩ : ∃ t : Nat, pck at_ ((ls.length : Int) + 1) = t := ⟨(pck at_ ((ls.length : Int) + 1)).toNat, by omega⟩
 rw [ht] at t0 t1
 have h9 : ∀ k ∈ ls, k ≤ 9 := fun k hk => (wk_9 (p1.mem_iff.1 hk)).1
 have hpl : ∀ x ∈ ls.map (pcK a (nbs r) (nbs u)), 2 ≤ (asL x).length ∧ (asL x).length ≤ 100000 := fun x hx => by
  obtain ⟨k, hk, rfl⟩ := List.mem_map.1 hx
  exact pc_len hvl (List.mem_map_of_mem (p1.mem_iff.1 hk))
 rw [dec_iff.2 ⟨by rw [List.length_map], by omega, by omega, by omega, rfl, by omega, hpl, by rw [List.length_nil]; simp; omega⟩, cond_true, ht]
 have hmx := mxF_all (a := a) (R := nbs r) (U := nbs u) (W := unk c v) (t := t) (ks := ls) (by omega) (ls.length + 1) 0 [] 0 (by omega) (by omega)
 have hmx2 : mxF (unk c v) t (ls.map (pcK a (nbs r) (nbs u))) (ls.length + 1) (0 : Int) ⟨[], 0⟩ = _ := hmx
 rw [show ls.length + 1 - (0 : Int).toNat = ls.length + 1 from rfl, hmx2]
 simp only [List.nil_append, List.drop_zero, Nat.sub_zero]
 have hp2 : (ls.take t ++ ls.drop t).Perm (wk a (nbs r) (nbs u)) := by rw [List.take_append_drop]; exact p1
 have b1 : byl (rowsB a (nbs r) (nbs u) (ls.take t)) := rowsB_byl h.mb (nbs_byl h.gr) (nbs_byl h.gu) _ (fun k hk => h9 k (List.mem_of_mem_take hk))
 have b2 : byl (rowsB a (nbs r) (nbs u) (ls.drop t)) := rowsB_byl h.mb (nbs_byl h.gr) (nbs_byl h.gu) _ (fun k hk => h9 k (List.mem_of_mem_drop hk))
 have bm : byl (rowsB a (nbs r) (nbs u) (ls.take t) ++ (unk c v ++ rowsB a (nbs r) (nbs u) (ls.drop t))) := byl_app b1 (byl_app (atB_unk_byl hb) b2)
 have q1 := rowsB_len hvl (ls.take t)
 have q2 := rowsB_len hvl (ls.drop t)
 have q3 : (ls.take t).length ≤ 10 ∧ (ls.drop t).length + (ls.take t).length ≤ 10 := by rw [List.length_take, List.length_drop]; omega
 have q4 : (unk c v).length = 3 + v.length := by simp [unk]; omega
 have hMl : (rowsB a (nbs r) (nbs u) (ls.take t) ++ (unk c v ++ rowsB a (nbs r) (nbs u) (ls.drop t))).length ≤ 1000000 := by
  rw [List.length_append, List.length_append]; omega
 have hoff : (rowsB a (nbs r) (nbs u) (ls.take t)).length < (rowsB a (nbs r) (nbs u) (ls.take t) ++ (unk c v ++ rowsB a (nbs r) (nbs u) (ls.drop t))).length := by
  rw [List.length_append, List.length_append]; omega
 have hmix := h.mixed lr lu hp2 (c := c) hv
 have hkn := h.known lr lu hp2 (c := c) hv
 rw [rdCq_ok bm rfl hMl, hmix]
 unfold any1
 have hp := h.va.pl; have hc := h.va.cl; have hm := h.va.cm
 rw [show (!((0 : Int) == 0 && (0 : Int) == 0)) = false from rfl, cond_false, dec_iff.2 ⟨by cases a; rfl, by cases a; rfl, by omega, by omega, by omega⟩, cond_true, dec_iff.2 ⟨rfl, by show r.length ≤ _; omega⟩, cond_true, dec_iff.2 ⟨rfl, by show u.length ≤ _; omega⟩, cond_true]
 generalize hG : rowsB a (nbs r) (nbs u) (ls.take t) ++ (unk c v ++ rowsB a (nbs r) (nbs u) (ls.drop t)) = G at *
 generalize hO : (rowsB a (nbs r) (nbs u) (ls.take t)).length = o at *
 simp only []
 rw [inB_ok (i := (o : Int)) (n := G.length) (by omega) (by omega), cond_true, Nat.zero_add, Int.toNat_natCast, decide_eq_true hoff, cond_true, rdCq_ok (set_byl bm _) (by rw [List.length_set]) hMl]
 rw [List.length_set] at hkn
 rw [hkn]
 unfold any2
 rw [show (!((17 : Int) == 17 && (o : Int) == o)) = false by rw [beq_self_eq_true, beq_self_eq_true]; rfl, cond_false, show ((ls.length : Int) == 0) = false by rw [beq_eq_false_iff_ne]; omega, cond_false]
 unfold any3
 have hl0 : 0 < ls.length := by omega
 have hg0 : asL ((ls.map (pcK a (nbs r) (nbs u))).getD (0 : Int).toNat .junk) = putB ls[0] a (nbs r) (nbs u) := (drop_pc (a := a) (R := nbs r) (U := nbs u) hl0).2
 have hk0 : ls[0] ∈ wk a (nbs r) (nbs u) := p1.mem_iff.1 (List.getElem_mem hl0)
 have hpb : (putB ls[0] a (nbs r) (nbs u)).length ≤ 100000 := by
  have h1 := putB_len ls[0] a (nbs r) (nbs u)
  have h2 := hvl ls[0]
  omega
 have hdb := h.double lr lu hk0
 obtain ⟨y, hy, hct⟩ := h.cut lr lu rfl
 rw [dec_iff.2 (show _ ≤ 100000 by omega), cond_true, elC_ok (by rw [List.length_map]) (by omega) (by omega), hg0, apC_ok rfl (by omega), rdCq_ok (byl_app hbB (putB_byl h.mb (nbs_byl h.gr) (nbs_byl h.gu) (wk_9 hk0).1)) rfl (by rw [List.length_append]; omega), hdb,
  show w64 (((allB a (nbs r) (nbs u)).length : Int) - 1) = ((allB a (nbs r) (nbs u)).length : Int) - 1 from w64_id (by omega) (by omega), decide_eq_true (show (0 : Int) ≤ 0 by omega), decide_eq_true (show 0 ≤ ((allB a (nbs r) (nbs u)).length : Int) - 1 by omega), decide_eq_true (show ((allB a (nbs r) (nbs u)).length : Int) - 1 ≤ ((allB a (nbs r) (nbs u)).length : Int) by omega),
  show (((allB a (nbs r) (nbs u)).length : Int) - 1).toNat - (0 : Int).toNat = (allB a (nbs r) (nbs u)).length - 1 by omega, show (allB a (nbs r) (nbs u)).drop (0 : Int).toNat = allB a (nbs r) (nbs u) from rfl]
 unfold rdPq any4
 rw [dec_iff.2 ⟨byl_take hbB _, by rw [List.length_take]; omega⟩]
 simp only [Bool.and_self, cond_true]
 rw [hct]
 simp only [beq_self_eq_true, Bool.and_self, cond_true]
 rw [decide_eq_true hy]
noncomputable def law5_s : CSumm := fun args H => match args, H with
 | [x, .psl 49 r, .psl 49 u, .psl 3 _, .int .i64 _, .psl 5 v, .int .i64 _], [] => match atOf x with
  | some a => .ite (dec (In a r u ∧ byl v)) (.ret (.bool true) []) .fail
  | none => .fail
 | _, _ => .fail
theorem anyT_len {a : At} {r u ord v : List SV} (h : anyT a r u ord v = false) : lightB a r u = true ∧ ord.length ≤ 70 ∧ v.length ≤ 60 := by
 unfold anyT at h
 cases hl : lightB a r u with
 | false => rw [hl] at h; cases h
 | true =>
  rw [hl] at h
  simp only [Bool.not_true, cond_false] at h
  by_cases h1 : (ord.length : Int) > 70
  · rw [decide_eq_true h1] at h; cases h
  · rw [decide_eq_false h1, cond_false] at h
    have := of_decide_eq_false h
    exact ⟨rfl, by omega, by omega⟩
theorem law5_k : Known Tryz.prog 5 law5_s := by
 have kN := law5_k0 bytesN_k
 have kZ := law5_k0 bytesP_k
 refine ⟨kN.fn, fun args H v ups h => ?_⟩
 unfold law5_s at h
 split at h
 · rename_i x r u ord c v at_
   split at h
   · rename_i a ha
     rw [crun_ite] at h
     cases hc : dec (In a r u ∧ byl v) with
     | false => rw [hc] at h; cases h
     | true =>
      rw [hc] at h
      cases h
      obtain ⟨hi, hb⟩ := dec_iff.1 hc
      rw [atOf_v ha]
      by_cases h0 : chkAll a r u = 0
      · refine kZ.ok _ _ _ _ ?_
        refine (congrArg crun (any_z a r u ord c v at_)).trans ?_
        cases hT : anyT a r u ord v with
        | true => rfl
        | false =>
         obtain ⟨hl, l1, l2⟩ := anyT_len hT
         obtain ⟨lr, lu⟩ := light_len hl
         have hf := hi.fit lr lu
         have hv := hi.vd (by omega) (by omega) h0
         rw [cond_false, dec_iff.2 ⟨hf, h0⟩, cond_true, any_ok hv lr lu c at_ l1 l2 hb]
         rfl
      · refine kN.ok _ _ _ _ ?_
        refine (congrArg crun (any_n a r u ord c v at_)).trans ?_
        cases hT : anyT a r u ord v with
        | true => rfl
        | false =>
         obtain ⟨hl, l1, l2⟩ := anyT_len hT
         obtain ⟨lr, lu⟩ := light_len hl
         rw [cond_false, dec_iff.2 ⟨hi.fit lr lu, h0⟩, cond_true, show (chkAll a r u != 0) = true by simpa using h0]
         rfl
   · cases h
 · cases h
theorem byl_ofV {l : List SV} (h : ∀ x ∈ l, OkV Tryz.prog 5 x) : byl l := by
 intro x hx
 obtain ⟨n, rfl, hw⟩ := (h x hx).int_inv Tryz.underlying5
 exact ⟨n, rfl, wf8 hw⟩
theorem attrAny_lifted (os : Os) (started : os.Started) (H : Type) (enc : TypeId × Value → H) :
  ReturnsInHanded {} Tryz.checked os 5 .any (Rows.attrAnySpec.pre6 enc Tryz.prog Tryz.f5 Rows.attrAnyRow.domain false) (Rows.attrAnySpec.post enc Tryz.prog Tryz.f5 false true false false) := by
 refine returnsInHanded_of_change (C := Tryz.checked) Tryz.own started (by kernel_rfl) Tryz.func5
  (ChangeSpec.witness6 (enc := enc) (C := Tryz.checked) false ⟨#[], #[.agg #[.int .i64 0, .slice none 0 0, .int .u32 0, .bool false, .int .u32 0, .bool false, .int .u32 0, .bool false, .int .u32 0, .slice none 0 0, .slice none 0 0, .int .i64 0, .int .u32 0, .int .u32 0, .int .u32 0], .slice none 0 0, .slice none 0 0, .slice none 0 0, .int .i64 0, .slice none 0 0, .int .i64 0], []⟩ 8 (by kernel_rfl) (by kernel_rfl) (by kernel_rfl) (by kernel_rfl)) ?_
 intro W base args ds gs before hval0 hW hcnd _
 exact row_true (tb := 4) laidTryz mapsTryz fullTryz (by kernel_rfl) (by kernel_rfl) law5_k rfl Tryz.underlying4 rfl (fun ss h => by
  rw [Tryz.params5] at h
  obtain ⟨s0, ss, rfl, h0, h⟩ := h.cons_inv
  obtain ⟨s1, ss, rfl, h1, h⟩ := h.cons_inv
  obtain ⟨s2, ss, rfl, h2, h⟩ := h.cons_inv
  obtain ⟨s3, ss, rfl, h3, h⟩ := h.cons_inv
  obtain ⟨s4, ss, rfl, h4, h⟩ := h.cons_inv
  obtain ⟨s5, ss, rfl, h5, h⟩ := h.cons_inv
  obtain ⟨s6, ss, rfl, h6, h⟩ := h.cons_inv
  obtain rfl := h.nil_inv
  obtain ⟨a, r, u, rfl, rfl, rfl, hi⟩ := in_inv h0 h1 h2
  obtain ⟨ord, rfl, -, -⟩ := h3.sl_inv Tryz.underlying54
  obtain ⟨c, rfl, -⟩ := h4.int_inv Tryz.underlying3
  obtain ⟨v, rfl, -, hv⟩ := h5.sl_inv Tryz.underlying22
  obtain ⟨t, rfl, -⟩ := h6.int_inv Tryz.underlying3
  show crun (.ite (dec (In a r u ∧ byl v)) (.ret (.bool true) []) .fail) = _
  rw [crun_ite, dec_iff.2 ⟨hi, byl_ofV hv⟩]; rfl) (fun ds h => by
   match ds, h with
   | [d0, d1, d2, d3, d4, d5, d6], _ => rfl) hval0 hW
theorem attrAny_holds : Rows.AttrAnySaid :=
 OpenClaim.holds_of_wide 5 Tryz.f5 rfl rfl rfl rfl rfl rfl rfl ⟨rfl, rfl, rfl, rfl, rfl⟩ rfl rfl rfl rfl rfl (by kernel_rfl) Tryz.func5 (by kernel_rfl)
  (of_decide_eq_true (by kernel_rfl)) (by unfold Func.isWrapper; first | (rw [if_pos (by decide +kernel)]; kernel_rfl) | (rw [if_neg (by decide +kernel)]; exact ⟨rfl, rfl⟩))
  (fun os started H enc _ => attrAny_lifted os started H enc)
end Go.Proofs.YtdgnhaacdpmclaaGreat
#print axioms Go.Proofs.YtdgnhaacdpmclaaGreat.attrAny_holds
