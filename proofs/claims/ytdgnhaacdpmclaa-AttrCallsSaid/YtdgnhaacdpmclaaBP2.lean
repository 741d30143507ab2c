/- 'AttrCalls' answers true, whatever attributes and routes it is handed. No condition. -/
import Derived.Test.YtdgnhaacdpmclaaPart6
namespace Go.Proofs.Ytdgnhaacdpmclaa
open Go.Am Go.ChangeShapes Go.WideShapes Go.ChangeAt Go.RowKit Go.Joins
set_option maxRecDepth 100000
theorem Try.own : ownKnob Try.prog.godebug = none := by kernel_rfl
theorem laidTry : laidOutB Try.prog = true := by kernel_rfl
theorem mapsTry : mapsRowed Try.prog = true := by kernel_rfl
theorem fullTry : ((List.range Try.prog.types.size).all fun t => match Try.prog.underlying t with | some (.slice e) => decide (0 < Try.prog.cellsOf e) | _ => true) = true := by kernel_rfl
theorem wf32 {n : Int} (h : (Lit.int .u32 n).wf = true) : 0 ≤ n ∧ n < 4294967296 := by
  simp [Lit.wf, IntKind.min, IntKind.max, IntKind.signed, IntKind.bits] at h; omega
theorem wf64 {n : Int} (h : (Lit.int .u64 n).wf = true) : 0 ≤ n ∧ n < 18446744073709551616 := by
  simp [Lit.wf, IntKind.min, IntKind.max, IntKind.signed, IntKind.bits] at h; omega
/-- The ranges of a route's numbers. -/
structure RgN (n : Nl) : Prop where
  rd : 0 ≤ n.rd ∧ n.rd < 18446744073709551616
  tag : 0 ≤ n.tag ∧ n.tag < 4294967296
  mac : 0 ≤ n.mac ∧ n.mac < 18446744073709551616
  ip : 0 ≤ n.ip ∧ n.ip < 4294967296
  pip : 0 ≤ n.pip ∧ n.pip < 4294967296
  gw : 0 ≤ n.gw ∧ n.gw < 4294967296
  lab : 0 ≤ n.lab ∧ n.lab < 4294967296
  lab2 : 0 ≤ n.lab2 ∧ n.lab2 < 4294967296
theorem nl_inv {v : SV} (hv : OkV Try.prog 47 v) : RgN (nlAt v) := by
  obtain ⟨cs, rfl, hh⟩ := hv.agg_inv (by kernel_rfl)
  clear hv
  rw [show leaves Try.prog 40 47 = [3, 40, 5, 5, 5, 5, 5, 5, 5, 5, 5, 5, 23, 43, 24, 4, 24, 3, 24, 23, 23] by kernel_rfl] at hh
  obtain ⟨v0, cs, rfl, h0, hh⟩ := hh.cons_inv
  obtain ⟨v1, cs, rfl, h1, hh⟩ := hh.cons_inv
  obtain ⟨v2, cs, rfl, h2, hh⟩ := hh.cons_inv
  obtain ⟨v3, cs, rfl, h3, hh⟩ := hh.cons_inv
  obtain ⟨v4, cs, rfl, h4, hh⟩ := hh.cons_inv
  obtain ⟨v5, cs, rfl, h5, hh⟩ := hh.cons_inv
  obtain ⟨v6, cs, rfl, h6, hh⟩ := hh.cons_inv
  obtain ⟨v7, cs, rfl, h7, hh⟩ := hh.cons_inv
  obtain ⟨v8, cs, rfl, h8, hh⟩ := hh.cons_inv
  obtain ⟨v9, cs, rfl, h9, hh⟩ := hh.cons_inv
  obtain ⟨v10, cs, rfl, h10, hh⟩ := hh.cons_inv
  obtain ⟨v11, cs, rfl, h11, hh⟩ := hh.cons_inv
  obtain ⟨v12, cs, rfl, h12, hh⟩ := hh.cons_inv
  obtain ⟨v13, cs, rfl, h13, hh⟩ := hh.cons_inv
  obtain ⟨v14, cs, rfl, h14, hh⟩ := hh.cons_inv
  obtain ⟨v15, cs, rfl, h15, hh⟩ := hh.cons_inv
  obtain ⟨v16, cs, rfl, h16, hh⟩ := hh.cons_inv
  obtain ⟨v17, cs, rfl, h17, hh⟩ := hh.cons_inv
  obtain ⟨v18, cs, rfl, h18, hh⟩ := hh.cons_inv
  obtain ⟨v19, cs, rfl, h19, hh⟩ := hh.cons_inv
  obtain ⟨v20, cs, rfl, h20, hh⟩ := hh.cons_inv
  obtain rfl := hh.nil_inv
  obtain ⟨a1, rfl, w1⟩ := h1.int_inv Try.underlying40
  obtain ⟨a12, rfl, w12⟩ := h12.int_inv Try.underlying23
  obtain ⟨a13, rfl, w13⟩ := h13.int_inv Try.underlying43
  obtain ⟨a14, rfl, w14⟩ := h14.int_inv Try.underlying24
  obtain ⟨a16, rfl, w16⟩ := h16.int_inv Try.underlying24
  obtain ⟨a18, rfl, w18⟩ := h18.int_inv Try.underlying24
  obtain ⟨a19, rfl, w19⟩ := h19.int_inv Try.underlying23
  obtain ⟨a20, rfl, w20⟩ := h20.int_inv Try.underlying23
  exact ⟨wf64 w1, wf32 w12, wf64 w13, wf32 w14, wf32 w16, wf32 w18, wf32 w19, wf32 w20⟩
theorem okP_of {n : Nl} (h : RgN n) (hc : chk n = 0) : OkP n := by
  have h1 := h.rd; have h2 := h.tag; have h3 := h.mac; have h4 := h.ip; have h5 := h.pip; have h6 := h.gw; have h7 := h.lab; have h8 := h.lab2
  unfold chk at hc
  cases c1 : (decide (n.kind < 1) || decide (n.kind > 5)) with
  | true => rw [c1] at hc; cases hc
  | false =>
    rw [c1, cond_false] at hc
    cases c2 : !fm n with
    | true => rw [c2] at hc; cases hc
    | false =>
      rw [c2, cond_false] at hc
      cases c3 : big n with
      | true => rw [c3] at hc; cases hc
      | false =>
        rw [c3, cond_false] at hc
        cases c4 : !vld n.plen with
        | true => rw [c4] at hc; cases hc
        | false =>
          have hv : vld n.plen = true := by simpa using c4
          have hp := (vld_iff _).1 hv
          unfold big at c3
          simp at c3
          refine ⟨h1.1, h1.2, h2.1, h2.2, h3.1, ?_, h4.1, h4.2, h5.1, h5.2, hp.1, by omega, h6.1, h6.2, h7.1, ?_, h8.1, ?_⟩ <;> omega
theorem rg_at {l : List SV} (h : ∀ x ∈ l, OkV Try.prog 47 x) {i : Int} (h0 : 0 ≤ i) (h1 : i < l.length) : RgN (rt l i) := by
  unfold rt
  have hlt : i.toNat < l.length := by omega
  rw [List.getD_eq_getElem?_getD, List.getElem?_eq_getElem hlt]
  exact nl_inv (h _ (List.getElem_mem hlt))
theorem okAll_of {l : List SV} (h : ∀ x ∈ l, OkV Try.prog 47 x) : ∀ (k : Nat) (i : Int), 0 ≤ i → i + k ≤ l.length → fst k l i = 0 → okAll k l i = true
  | 0, _, _, _, _ => rfl
  | k + 1, i, h0, h1, hf => by
    unfold fst at hf
    cases hc : chk (rt l i) != 0 with
    | true =>
      rw [hc, cond_true] at hf
      rw [hf] at hc; cases hc
    | false =>
      rw [hc, cond_false] at hf
      have hc0 : chk (rt l i) = 0 := by simpa using hc
      unfold okAll
      rw [okAll_of h k (i + 1) (by omega) (by omega) hf, decide_eq_true ⟨hc0, okP_of (rg_at h h0 (by omega)) hc0⟩]
      rfl
theorem okR_of {l : List SV} (h : ∀ x ∈ l, OkV Try.prog 47 x) (hl : l.length ≤ 1000) (hf : fsts l = 0) : okR l = true := by
  unfold okR
  rw [decide_eq_true hl, okAll_of h l.length 0 (by omega) (by omega) hf]
  rfl
theorem okW_of {e : TypeId} {l : List SV} (hu : Try.prog.underlying e = some (.int .u32)) (h : ∀ x ∈ l, OkV Try.prog e x) : okW l = true := by
  rw [okW_iff]
  intro k
  rw [List.getD_eq_getElem?_getD]
  cases hk : l[k]? with
  | none => simp [asI]
  | some x =>
    obtain ⟨n, rfl, w⟩ := (h x (List.mem_of_getElem? hk)).int_inv hu
    exact wf32 w
theorem at_inv {v : SV} (hv : OkV Try.prog 30 v) : ∃ a : At, v = a.v ∧ (achk a = 0 → OkA a) ∧ a.path.length ≤ maxLen ∧ a.cl.length ≤ maxLen ∧ a.cm.length ≤ maxLen := by
  obtain ⟨cs, rfl, hh⟩ := hv.agg_inv (by kernel_rfl)
  clear hv
  rw [show leaves Try.prog 40 30 = [3, 22, 24, 4, 23, 4, 23, 4, 24, 25, 26, 3, 23, 24, 24] by kernel_rfl] at hh
  obtain ⟨v0, cs, rfl, h0, hh⟩ := hh.cons_inv
  obtain ⟨v1, cs, rfl, h1, hh⟩ := hh.cons_inv
  obtain ⟨v2, cs, rfl, h2, hh⟩ := hh.cons_inv
  obtain ⟨v3, cs, rfl, h3, hh⟩ := hh.cons_inv
  obtain ⟨v4, cs, rfl, h4, hh⟩ := hh.cons_inv
  obtain ⟨v5, cs, rfl, h5, hh⟩ := hh.cons_inv
  obtain ⟨v6, cs, rfl, h6, hh⟩ := hh.cons_inv
  obtain ⟨v7, cs, rfl, h7, hh⟩ := hh.cons_inv
  obtain ⟨v8, cs, rfl, h8, hh⟩ := hh.cons_inv
  obtain ⟨v9, cs, rfl, h9, hh⟩ := hh.cons_inv
  obtain ⟨v10, cs, rfl, h10, hh⟩ := hh.cons_inv
  obtain ⟨v11, cs, rfl, h11, hh⟩ := hh.cons_inv
  obtain ⟨v12, cs, rfl, h12, hh⟩ := hh.cons_inv
  obtain ⟨v13, cs, rfl, h13, hh⟩ := hh.cons_inv
  obtain ⟨v14, cs, rfl, h14, hh⟩ := hh.cons_inv
  obtain rfl := hh.nil_inv
  obtain ⟨ori, rfl, w0⟩ := h0.int_inv Try.underlying3
  obtain ⟨path, rfl, l1, g1⟩ := h1.sl_inv Try.underlying22
  obtain ⟨nx, rfl, w2⟩ := h2.int_inv Try.underlying24
  obtain ⟨hm, rfl⟩ := h3.bool_inv Try.underlying4
  obtain ⟨med, rfl, w4⟩ := h4.int_inv Try.underlying23
  obtain ⟨hp, rfl⟩ := h5.bool_inv Try.underlying4
  obtain ⟨prf, rfl, w6⟩ := h6.int_inv Try.underlying23
  obtain ⟨ho, rfl⟩ := h7.bool_inv Try.underlying4
  obtain ⟨orr, rfl, w8⟩ := h8.int_inv Try.underlying24
  obtain ⟨cl, rfl, l9, g9⟩ := h9.sl_inv Try.underlying25
  obtain ⟨cm, rfl, l10, g10⟩ := h10.sl_inv Try.underlying26
  obtain ⟨tk, rfl, w11⟩ := h11.int_inv Try.underlying3
  obtain ⟨tl, rfl, w12⟩ := h12.int_inv Try.underlying23
  obtain ⟨tr, rfl, w13⟩ := h13.int_inv Try.underlying24
  obtain ⟨tg, rfl, w14⟩ := h14.int_inv Try.underlying24
  refine ⟨⟨ori, path, nx, hm, med, hp, prf, ho, orr, cl, cm, tk, tl, tr, tg⟩, rfl, fun hc => ?_, l1, l9, l10⟩
  have b12 := wf32 w12
  unfold achk ck1 ck2 ck4 ck5 at hc
  simp only [] at hc
  by_cases c0 : ori < 0
  · rw [decide_eq_true c0] at hc; cases hc
  by_cases c1 : ori > 2
  · rw [decide_eq_true c1, decide_eq_false c0] at hc; cases hc
  rw [decide_eq_false c0, decide_eq_false c1] at hc
  by_cases c2 : (path.length : Int) > 32
  · rw [decide_eq_true c2] at hc; cases hc
  by_cases c3 : (cl.length : Int) > 16
  · rw [decide_eq_true c3, decide_eq_false c2] at hc; cases hc
  by_cases c4 : (cm.length : Int) > 64
  · rw [decide_eq_true c4, decide_eq_false c2, decide_eq_false c3] at hc; cases hc
  rw [decide_eq_false c2, decide_eq_false c3, decide_eq_false c4] at hc
  simp only [cond_false] at hc
  have hk : 0 ≤ tk ∧ tk < 256 := by
    by_cases k0 : tk = 0
    · omega
    by_cases k3 : tk = 3
    · omega
    by_cases k6 : tk = 6
    · omega
    rw [show (tk != 0) = true by simpa using k0, show (tk != 3) = true by simpa using k3, show (tk != 6) = true by simpa using k6] at hc
    simp only [cond_true] at hc
    cases h3 : ck3 ⟨ori, path, nx, hm, med, hp, prf, ho, orr, cl, cm, tk, tl, tr, tg⟩ <;> rw [h3] at hc <;> cases hc
  have hl : tl < 16777216 := by
    by_cases t0 : tl > 16777215
    · rw [decide_eq_true t0] at hc
      cases h3 : ck3 ⟨ori, path, nx, hm, med, hp, prf, ho, orr, cl, cm, tk, tl, tr, tg⟩ <;> rw [h3] at hc
      · cases h4 : (bif bif tk != 0 then tk != 3 else false then tk != 6 else false) <;> rw [h4] at hc <;> cases hc
      · cases hc
    · omega
  exact ⟨by simp only []; omega, by simp only []; omega, okW_of Try.underlying23 g1, wf32 w2, wf32 w4, wf32 w6, wf32 w8, by simp only []; omega, okW_of Try.underlying24 g9, by simp only []; omega, hk, ⟨b12.1, hl⟩, wf32 w13, wf32 w14⟩
noncomputable def law_s : CSumm := fun args H => match args, H with
  | [x, .psl 47 r, .psl 47 u], [] => match atOf x with
    | some a => .ite (dec (a.path.length ≤ maxLen ∧ a.cl.length ≤ maxLen ∧ a.cm.length ≤ maxLen ∧ (r.length ≤ 20 → u.length ≤ 20 → Fit a r u))) (.ret (.bool true) []) .fail
    | none => .fail
  | _, _ => .fail
theorem bnd_t {b : Nat} {l : List SV} (h : l.length ≤ 1000) (hb : b ≤ 1000) : bndE b l = true := by
  unfold bndE
  have : l.length * b ≤ 1000 * 1000 := Nat.mul_le_mul h hb
  rw [decide_eq_true (by omega), decide_eq_true (by omega)]; rfl
theorem pre_ok {a : At} {r u : List SV} {K : CTree} (h : lightB a r u = true → crun K = some (.bool true, [])) : crun (preT a r u K) = some (.bool true, []) := by
  unfold preT
  cases hl : lightB a r u with
  | false => rfl
  | true =>
    have hb : ∀ x y : Bool, (bif x then y else false) = (x && y) := by decide
    have hl' := hl
    unfold lightB at hl'
    simp only [hb, Bool.and_eq_true, decide_eq_true_eq] at hl'
    obtain ⟨⟨⟨⟨h1, h2⟩, h3⟩, h4⟩, h5⟩ := hl'
    rw [bnd_t (by omega) (by omega), bnd_t (by omega) (by omega), bnd_t (by omega) (by omega), bnd_t (by omega) (by omega), bnd_t (by omega) (by omega)]
    exact h hl
theorem light_len {a : At} {r u : List SV} (h : lightB a r u = true) : r.length ≤ 20 ∧ u.length ≤ 20 := by
  have hb : ∀ x y : Bool, (bif x then y else false) = (x && y) := by decide
  unfold lightB at h
  simp only [hb, Bool.and_eq_true, decide_eq_true_eq] at h
  obtain ⟨⟨⟨⟨h1, h2⟩, h3⟩, h4⟩, h5⟩ := h
  omega
theorem law_k : Known Try.prog 3 law_s := by
  have kN := openKnown (f := 3) (fn := Try.f3) (aOk (bytesN_of bytes_k6) (bytesN_of bytes_k9)) Try.func3 rfl
  have kZ := openKnown (f := 3) (fn := Try.f3) (aOk (bytesZ_of bytes_k6) (bytesZ_of bytes_k9)) Try.func3 rfl
  refine ⟨kN.fn, fun args H v ups h => ?_⟩
  unfold law_s at h
  split at h
  · rename_i x r u
    split at h
    · rename_i a ha
      rw [crun_ite] at h
      cases hc : dec (a.path.length ≤ maxLen ∧ a.cl.length ≤ maxLen ∧ a.cm.length ≤ maxLen ∧ (r.length ≤ 20 → u.length ≤ 20 → Fit a r u)) with
      | false => rw [hc] at h; cases h
      | true =>
        rw [hc] at h
        cases h
        obtain ⟨_, _, _, hf⟩ := dec_iff.1 hc
        rw [atOf_v ha]
        by_cases h0 : chkAll a r u = 0
        · refine kZ.ok _ _ _ _ ?_
          rw [lawZ_t]
          refine pre_ok (fun hl => ?_)
          have hd := dec_iff.2 (⟨hf (light_len hl).1 (light_len hl).2, h0⟩ : Fit a r u ∧ chkAll a r u = 0)
          rw [hd]
          unfold strC
          simp
          rfl
        · refine kN.ok _ _ _ _ ?_
          rw [lawN_t]
          refine pre_ok (fun hl => ?_)
          have hd := dec_iff.2 (⟨hf (light_len hl).1 (light_len hl).2, h0⟩ : Fit a r u ∧ chkAll a r u ≠ 0)
          rw [hd]
          simp
          rfl
    · cases h
  · cases h
theorem law_true {ss : List SV} (h : All2 (OkV Try.prog) [30, 31, 31] ss) : crun (law_s ss []) = some (.bool true, []) := by
  obtain ⟨s0, ss, rfl, h0, h⟩ := h.cons_inv
  obtain ⟨s1, ss, rfl, h1, h⟩ := h.cons_inv
  obtain ⟨s2, ss, rfl, h2, h⟩ := h.cons_inv
  obtain rfl := h.nil_inv
  obtain ⟨a, rfl, ho, l1, l2, l3⟩ := at_inv h0
  obtain ⟨r, rfl, lr, gr⟩ := h1.sl_inv Try.underlying31
  obtain ⟨u, rfl, lu, gu⟩ := h2.sl_inv Try.underlying31
  show crun (.ite (dec (a.path.length ≤ maxLen ∧ a.cl.length ≤ maxLen ∧ a.cm.length ≤ maxLen ∧ (r.length ≤ 20 → u.length ≤ 20 → Fit a r u))) (.ret (.bool true) []) .fail) = _
  have hfit : r.length ≤ 20 → u.length ≤ 20 → Fit a r u := by
    intro hr hu
    refine ⟨hr, hu, fun hc => ?_⟩
    unfold chkAll at hc
    cases ha : achk a != 0 with
    | true =>
      rw [ha, cond_true] at hc
      rw [hc] at ha; cases ha
    | false =>
      rw [ha, cond_false] at hc
      cases hz : (bif (r.length : Int) == 0 then !azero a else false) with
      | true => rw [hz] at hc; cases hc
      | false =>
        rw [hz, cond_false] at hc
        cases hx : fsts r != 0 with
        | true =>
          rw [hx, cond_true] at hc
          rw [hc] at hx; cases hx
        | false =>
          rw [hx, cond_false] at hc
          have hx0 : fsts r = 0 := by simpa using hx
          exact ⟨ho (by simpa using ha), okR_of gr (by omega) hx0, okR_of gu (by omega) hc⟩
  rw [dec_iff.2 ⟨l1, l2, l3, hfit⟩]; rfl
theorem attrCalls_lifted (os : Os) (started : os.Started) (H : Type) (enc : TypeId × Value → H) :
    ReturnsInHanded {} Try.checked os 3 .any (Rows.attrCallsSpec.pre6 enc Try.prog Try.f3 Rows.attrCallsRow.domain false) (Rows.attrCallsSpec.post enc Try.prog Try.f3 false true false false) := by
  refine returnsInHanded_of_change (C := Try.checked) Try.own started (by kernel_rfl) Try.func3
    (ChangeSpec.witness6 (enc := enc) (C := Try.checked) false ⟨#[], #[.agg #[.int .i64 0, .slice none 0 0, .int .u32 0, .bool false, .int .u32 0, .bool false, .int .u32 0, .bool false, .int .u32 0, .slice none 0 0, .slice none 0 0, .int .i64 0, .int .u32 0, .int .u32 0, .int .u32 0], .slice none 0 0, .slice none 0 0], []⟩ 8 (by kernel_rfl) (by kernel_rfl) (by kernel_rfl) (by kernel_rfl)) ?_
  intro W base args ds gs before hval0 hW hcnd _
  exact row_true (tb := 4) laidTry mapsTry fullTry (by kernel_rfl) (by kernel_rfl) law_k rfl Try.underlying4 rfl (fun ss h => by
    rw [Try.params3] at h
    exact law_true h) (fun ds h => by
      match ds, h with
      | [d0, d1, d2], _ => rfl) hval0 hW
theorem attrCalls_holds : Rows.AttrCallsSaid :=
  OpenClaim.holds_of_wide 3 Try.f3 rfl rfl rfl rfl rfl rfl rfl ⟨rfl, rfl, rfl, rfl, rfl⟩ rfl rfl rfl rfl rfl (by kernel_rfl) Try.func3 (by kernel_rfl)
    (of_decide_eq_true (by kernel_rfl)) (by unfold Func.isWrapper; first | (rw [if_pos (by decide +kernel)]; kernel_rfl) | (rw [if_neg (by decide +kernel)]; exact ⟨rfl, rfl⟩))
    (fun os started H enc _ => attrCalls_lifted os started H enc)
end Go.Proofs.Ytdgnhaacdpmclaa
#print axioms Go.Proofs.Ytdgnhaacdpmclaa.attrCalls_holds
