/- The abstract machine: 'append', and all further operations. -/
import Derived.Test.YtkbbiaobohlogaaMachine4
set_option linter.unusedVariables false
set_option linter.unusedSimpArgs false
namespace Go.Am
variable {P : Program} {ω : Nat → Value}
section
variable {w : World} {Im : Nat → Prop} {θ : Th} {h : HpF}
theorem growS_inv {e : TypeId} {es news : List SV} {dead ys : List Nat} {nx nx' : Nat} {r : SV} {ups : List (Nat × Option Chunk)} {rs : List Nat} (hm : mrun h (growS P e es news dead ys nx) = some (r, ups, nx', rs)) :
  ∃ i z, P.info? e = some i ∧ i.zero = some z ∧ z.cells.size = P.cellsOf e ∧ apartN dead ys = true ∧ es.length + news.length ≤ 9223372036854775807 ∧ (es.length + news.length) * i.bytes ≤ 140737488355328 ∧
   r = .qs nx (P.cellsOf e) 0 (es.length + news.length) ∧ ups = drops (dead ++ ys) ++ [(nx, some (.seq e (es ++ news)))] ∧ nx' = nx + 1 := by
 unfold growS at hm
 split at hm
 case h_2 => simp [mrun] at hm
 rename_i i hi
 split at hm
 case h_2 => simp [mrun] at hm
 rename_i z hz
 have hb0 := bif_fail hm; clear hm; obtain ⟨hk, hm⟩ := hb0
 simp only [Bool.and_eq_true] at hk
 have hb0 := mrun_ite_fail' hm; clear hm; obtain ⟨hc, hm⟩ := hb0
 simp only [Bool.and_eq_true, decide_eq_true_eq] at hc
 obtain ⟨rfl, rfl, rfl, rfl⟩ := mrun_done hm
 exact ⟨i, z, hi, hz, Nat.eq_of_beq_eq_true hk.1.1, hk.2, hc.1, hc.2, rfl, rfl, rfl⟩
theorem run_appendP {t t' e : TypeId} {s x : SV} {nx nx' : Nat} {r : SV} {ups : List (Nat × Option Chunk)} {rs : List Nat} (hr : HRel P ω w Im θ h) (hfr : ∀ x, nx ≤ x → x < nx' → θ x = none ∧ h x = none) (ht : P.underlying t = some (.slice e)) (hm : mrun h (appendP P e t' s x nx) = some (r, ups, nx', rs))
  {tys : Array TypeId} {ty : TypeId} {args : Array Value} {us ux : Value} (h0 : tys[0]? = some t) (h1 : tys[1]? = some t') (a0 : args[0]? = some us) (a1 : args[1]? = some ux) (hs : VRel P ω w Im θ s us) (hx : VRel P ω w Im θ x ux) :
  ∃ v w' θ' Im', (Builtin.append_ tys ty args).run P w = .ok v w' ∧ Ext (fun x => nx ≤ x ∧ x < nx') h w Im θ (updF ups h) w' Im' θ' ∧ VRel P ω w' Im' θ' r v ∧ HRel P ω w' Im' θ' (updF ups h) := by
 unfold appendP at hm
 split at hm
 case h_2 => simp [mrun] at hm
 rename_i i hi
 split at hm
 case h_2 => simp [mrun] at hm
 rename_i z hz
 have hb0 := bif_fail hm; clear hm; obtain ⟨hk, hm⟩ := hb0
 simp only [Bool.and_eq_true] at hk
 have hzs : z.cells.size = 1 := Nat.eq_of_beq_eq_true hk.1.1
 have hce : P.cellsOf e = 1 := Nat.eq_of_beq_eq_true hk.1.2
 have hsize : i.size = 1 := by rw [← hce]; simp [Program.cellsOf, hi]
 split at hm
 case h_2 => simp [mrun] at hm
 rename_i y sz off m
 cases hs
 have hb0 := get_run hm; clear hm; obtain ⟨c, rs', hy, hm, rfl⟩ := hb0
 split at hm
 case h_2 => simp [mrun] at hm
 rename_i T cs
 have hb0 := bif_fail hm; clear hm; obtain ⟨hs1, hm⟩ := hb0
 have : sz = 1 := Nat.eq_of_beq_eq_true hs1
 subst this
 split at hm
 case h_2 => simp [mrun] at hm
 rename_i vs hvs
 have hb0 := mrun_ite_fail' hm; clear hm; obtain ⟨hb, hm⟩ := hb0
 simp only [Bool.and_eq_true, decide_eq_true_eq] at hb
 obtain ⟨hm0, h63, hby⟩ := hb
 obtain ⟨rfl, rfl, rfl, rfl⟩ := mrun_done hm
 obtain ⟨hlen, hvs'⟩ := takeN_spec _ _ _ _ hvs
 have hvl : vs.length = m := by rw [hvs', List.length_take, List.length_drop]; omega
 cases hx with
 | slnil => omega
 | sl hθ hcap hlc =>
  rename_i b N cap
  obtain ⟨b', ca, fr, h3, h4, h5, h6⟩ := hr.at_ y _ hy
  rw [hθ] at h3
  simp only [Option.some.injEq, Prod.mk.injEq] at h3
  obtain ⟨rfl, rfl⟩ := h3
  obtain ⟨f1, f2⟩ := hfr nx (Nat.le_refl _) (Nat.lt_succ_self _)
  have hca : ca.size = cs.length := by have := h6.len; simpa using this.symm
  have hnl : ((ca.toList.drop off).take m).length = m := by rw [List.length_take, List.length_drop]; simp; omega
  have hsrc : Src P w i.size (.slice (some ⟨b, off, none⟩) m cap) m ((ca.toList.drop off).take m) := by
   refine src_slice (by rw [hsize, hnl]; omega) (fun j u hj => ?_)
   rw [add_off]
   simp only [World.cell?, h4]
   have hj' := take_some hj
   rw [List.getElem?_drop] at hj'
   simpa using hj'
  have hge := grownCap_ge w m 0 e
  have hrun := append_out (P := P) (w := w) (args := args) (ty := ty) (p := none) (n := 0) (cap := 0) (m := m) (olds := []) h0 h1 ht hk.2 hi hz a0 a1 hsrc (fun w' _ => (src_none (P := P) (w := w) (sz := i.size) (cap := 0) (p := none)).cells w' ‹_›) (by omega) (by omega) (by simpa using hby)
  simp only [Nat.zero_add] at hrun
  generalize hcells : (([] : List Value).toArray ++ ((ca.toList.drop off).take m).toArray ++ Builtin.zeroCells z.cells (grownCap w m 0 e - m)) = cells at hrun
  have hcl : cells.toList.take m = (ca.toList.drop off).take m := by
   rw [← hcells]
   simp only [Array.toList_append, List.nil_append]
   rw [List.take_append_of_le_length (by simpa using Nat.le_of_eq hnl.symm), List.take_of_length_le (by simpa using Nat.le_of_eq hnl)]
  have hcs : cells.size = grownCap w m 0 e := by
   rw [← hcells]
   simp only [Array.size_append, List.size_toArray, hnl, size_zeroCells, hzs, List.length_nil]
   omega
  obtain ⟨θ', hE, hH, hn⟩ := name_step hr f1 f2 (ds := []) (ys := []) (fun y hy => by cases hy) (w' := w.drew.alloc (.cells cells e)) (b := w.heap.size) (N := cells.size) (.inl ⟨Nat.le_refl _, by simp⟩) (by simp) (fun d _ hdl => alloc_old w.drew _ d hdl) rfl rfl rfl (by first | exact Nat.le_refl _ | exact Nat.le_succ _) (.sqp e vs) (fun θ' g1 g2 g3 => by
   refine ⟨w.heap.size, cells.size, cells, (0, 0), g1, alloc_new w.drew _, fun i _ hh => by omega, rfl, by rw [hcs, hvl]; exact hge, ?_⟩
   rw [hvl, hcl]
   refine ⟨by rw [hvl, hnl], fun k v u hv hu => ?_⟩
   rw [hvs'] at hv
   have hv' := take_some hv
   have hu' := take_some hu
   rw [List.getElem?_drop] at hv' hu'
   exact (h6.at_ (off + k) v u hv' hu').mono (fun d hd => ⟨(g3 d (.inl hd)).1, (g3 d (.inl hd)).2⟩) g2)
  refine ⟨_, _, θ', frozenBy Im θ h [], hrun, hE, ?_, hH⟩
  have := VRel'.qs (P := P) (ω := ω) (w := w.drew.alloc (.cells cells e)) (Im := frozenBy Im θ h []) (θ := θ') (x := nx) (sz := 1) (l := 0) (n := m) (cap := grownCap w m 0 e) hn (by rw [hcs]; omega) hge
  simpa using this
theorem run_appendX {t t' : TypeId} {s x : SV} {nx nx' : Nat} {r : SV} {ups : List (Nat × Option Chunk)} {rs : List Nat} (hr : HRel P ω w Im θ h) (hfr : ∀ x, nx ≤ x → x < nx' → θ x = none ∧ h x = none) (hm : mrun h (appendX P t t' s x nx) = some (r, ups, nx', rs))
  {tys : Array TypeId} {ty : TypeId} {args : Array Value} {us ux : Value} (h0 : tys[0]? = some t) (h1 : tys[1]? = some t') (a0 : args[0]? = some us) (a1 : args[1]? = some ux) (hs : VRel P ω w Im θ s us) (hx : VRel P ω w Im θ x ux) :
  ∃ v w' θ' Im', (Builtin.append_ tys ty args).run P w = .ok v w' ∧ Ext (fun x => nx ≤ x ∧ x < nx') h w Im θ (updF ups h) w' Im' θ' ∧ VRel P ω w' Im' θ' r v ∧ HRel P ω w' Im' θ' (updF ups h) := by
 unfold appendX at hm
 split at hm
 case h_2 => simp [mrun] at hm
 rename_i e hu
 cases hk : (listLike P t' && plainE P e) with
 | false => rw [hk, cond_false] at hm; exact run_appendP hr hfr hu hm h0 h1 a0 a1 hs hx
 | true =>
 rw [hk, cond_true] at hm
 simp only [Bool.and_eq_true] at hk
 have fin : ∀ (es : List SV) (uf : Nat → Value) (dead zs : List Nat) (rs : List Nat), Elems P w (frozenBy Im θ h zs) e es uf → Dst P w θ h e dead es.length uf us →
   mrun h (elemsM P e (fun news ys => growS P e es news dead (zs ++ ys) nx) x) = some (r, ups, nx', rs) →
   ∃ v w' θ' Im', (Builtin.append_ tys ty args).run P w = .ok v w' ∧ Ext (fun x => nx ≤ x ∧ x < nx') h w Im θ (updF ups h) w' Im' θ' ∧ VRel P ω w' Im' θ' r v ∧ HRel P ω w' Im' θ' (updF ups h) := by
  intro es uf dead zs rs hes hd hm
  obtain ⟨news, ys, rs', uf2, g1, g2, g3⟩ := elemsM_run hr hk.2 hx hm
  obtain ⟨i, z, hi, hz, hzs, hap, h63, hby, rfl, rfl, rfl⟩ := growS_inv g1
  obtain ⟨f1, f2⟩ := hfr nx (Nat.le_refl _) (Nat.lt_succ_self _)
  obtain ⟨v', w', θ', q1, q2, q3, q4⟩ := grow_run (ty := ty) hr f1 f2 hap (hes.mono (frozen_app w).1) (g2.mono (frozen_app w).2) hk.2 h0 h1 hu hk.1 hi hz hzs a0 a1 hd g3 h63 hby
  exact ⟨v', w', θ', _, q1, q2, q4, q3⟩
 have finQ : ∀ (es : List SV) (uf : Nat → Value) (dead zs : List Nat) (rs : List Nat), Elems P w (frozenBy Im θ h zs) e es uf → DstQ P w θ h e dead es.length uf us →
   mrun h (elemsM P e (fun news ys => growQ P e es news dead (zs ++ ys) nx) x) = some (r, ups, nx', rs) →
   ∃ v w' θ' Im', (Builtin.append_ tys ty args).run P w = .ok v w' ∧ Ext (fun x => nx ≤ x ∧ x < nx') h w Im θ (updF ups h) w' Im' θ' ∧ VRel P ω w' Im' θ' r v ∧ HRel P ω w' Im' θ' (updF ups h) := by
  intro es uf dead zs rs hes hd hm
  obtain ⟨news, ys, rs', uf2, g1, g2, g3⟩ := elemsM_run hr hk.2 hx hm
  obtain ⟨i, z, hi, hz, hzs, hap, hpos, h63, hby, rfl, rfl, rfl⟩ := growQ_inv g1
  obtain ⟨f1, f2⟩ := hfr nx (Nat.le_refl _) (Nat.lt_succ_self _)
  obtain ⟨v', w', θ', q1, q2, q3, q4⟩ := grow_runQ (ty := ty) hr f1 f2 hap (hes.mono (frozen_app w).1) (g2.mono (frozen_app w).2) hk.2 h0 h1 hu hk.1 hi hz hzs a0 a1 hd g3 hpos h63 hby
  exact ⟨v', w', θ', _, q1, q2, q4, q3⟩
 split at hm
 · cases hs
   cases hq : Nat.beq (P.cellsOf e) qCells with
   | true =>
    rw [hq] at hm
    exact finQ [] (fun _ => undef) [] [] rs Elems.nil (.none rfl) (by simpa using hm)
   | false =>
    rw [hq] at hm
    exact fin [] (fun _ => undef) [] [] rs Elems.nil (.none rfl) (by simpa using hm)
 · rename_i y sz n
   have hb0 := get_run hm; clear hm; obtain ⟨c, rs', hy, hm, rfl⟩ := hb0
   cases c with
   | sqo e' es =>
    have hb0 := bif_fail hm; clear hm; obtain ⟨hk2, hm⟩ := hb0
    simp only [Bool.and_eq_true] at hk2
    have : e = e' := Nat.eq_of_beq_eq_true hk2.1
    subst this
    have : sz = P.cellsOf e := Nat.eq_of_beq_eq_true hk2.2
    subst this
    have hb0 := mrun_ite_fail' hm; clear hm; obtain ⟨hc, hm⟩ := hb0
    have hn : n = es.length := of_decide_eq_true hc
    obtain ⟨b, off, cap, cs, fr, uf, h3, h4, h5, h6, h7, h8, h9⟩ := hr.at_ y _ hy
    have hel : Elems P w (frozenBy Im θ h []) _ es uf := ⟨h8, fun i v hv => ⟨(h9 i v hv).1.mono (frozenBy_up w) (fun _ _ h => h), (h9 i v hv).2.1⟩⟩
    cases hs with
    | qonil hn0 => exact finQ es uf [y] [] rs' hel (.none (by omega)) (by simpa using hm)
    | qo hθ k2 =>
     rw [h3] at hθ
     simp only [Option.some.injEq, Prod.mk.injEq] at hθ
     obtain ⟨rfl, hθ⟩ := hθ
     obtain ⟨rfl, rfl⟩ := enc_inj hθ
     refine finQ es uf [y] [] rs' hel ?_ (by simpa using hm)
     rw [hn]
     refine DstQ.row (y := y) (by simp) hy h3 h4 h5 (by omega) h6 (fun i hi d c hd => ?_)
     exact (h9 i es[i] (by simp [hi])).2.2 d c hd
   | cells => simp [mrun] at hm
   | loopr => simp [mrun] at hm
   | mpc => simp [mrun] at hm
   | mpb => simp [mrun] at hm
   | mpn => simp [mrun] at hm
   | mit => simp [mrun] at hm
   | seq => simp [mrun] at hm
   | sqp => simp [mrun] at hm
   | ext => simp [mrun] at hm
 · cases hs
   exact fin [] (fun _ => undef) [] [] rs Elems.nil (.none rfl) (by simpa using hm)
 · rename_i y sz l n
   have hb0 := get_run hm; clear hm; obtain ⟨c, rs', hy, hm, rfl⟩ := hb0
   cases c with
   | seq e' es =>
    have hb0 := bif_fail hm; clear hm; obtain ⟨hk2, hm⟩ := hb0
    simp only [Bool.and_eq_true] at hk2
    have : e = e' := Nat.eq_of_beq_eq_true hk2.1.1
    subst this
    have : sz = P.cellsOf e := Nat.eq_of_beq_eq_true hk2.1.2
    subst this
    have : l = 0 := Nat.eq_of_beq_eq_true hk2.2
    subst this
    have hb0 := mrun_ite_fail' hm; clear hm; obtain ⟨hc, hm⟩ := hb0
    have hn : n = es.length := of_decide_eq_true hc
    rcases hr.at_ y _ hy with ⟨rfl, h3⟩ | ⟨b, N, cs, T, fr, uf, h3, h4, h5, h6, h7, h8, h9⟩
    · cases hs with
      | qs hθ _ _ => rw [h3] at hθ; cases hθ
      | qsnil _ => exact fin [] (fun _ => undef) [y] [] rs' Elems.nil (.none rfl) (by simpa using hm)
    · obtain ⟨h6, rfl⟩ := h6
      have hel : Elems P w (frozenBy Im θ h []) _ es uf := ⟨h8, fun i v hv => ⟨(h9 i v hv).1.mono (frozenBy_up w) (fun _ _ h => h), (h9 i v hv).2.1⟩⟩
      cases hs with
      | qsnil hn0 => exact fin es uf [y] [] rs' hel (.none (by omega)) (by simpa using hm)
      | qs hθ k1 k2 =>
       rw [h3] at hθ
       simp only [Option.some.injEq, Prod.mk.injEq] at hθ
       obtain ⟨rfl, rfl⟩ := hθ
       rename_i cap
       refine fin es uf [y] [] rs' hel ?_ (by simpa using hm)
       rw [Nat.zero_mul, hn]
       refine Dst.row (y := y) (by simp) hy h3 h4 h5 (by omega) (by rw [h6]; simpa using k1) (fun i hi d c hd => ?_)
       exact (h9 i es[i] (by simp [hi])).2.2 d c hd
   | cells => simp [mrun] at hm
   | loopr => simp [mrun] at hm
   | mpc => simp [mrun] at hm
   | mpb => simp [mrun] at hm
   | mpn => simp [mrun] at hm
   | mit => simp [mrun] at hm
   | sqo => simp [mrun] at hm
   | sqp => simp [mrun] at hm
   | ext => simp [mrun] at hm
 · rename_i y sz off n
   have hb0 := get_run hm; clear hm; obtain ⟨c, rs', hy, hm, rfl⟩ := hb0
   cases c with
   | cells T cs =>
    have hb0 := bif_fail hm; clear hm; obtain ⟨hk2, hm⟩ := hb0
    simp only [Bool.and_eq_true] at hk2
    have : sz = P.cellsOf e := Nat.eq_of_beq_eq_true hk2.1.1.1
    subst this
    have : off = 0 := Nat.eq_of_beq_eq_true hk2.1.2
    subst this
    have : T = e := Nat.eq_of_beq_eq_true hk2.1.1.2
    subst this
    split at hm
    case h_2 => simp [mrun] at hm
    rename_i vs hvs
    obtain ⟨b, ca, fr, g1, g2, g3, g4⟩ := hr.at_ y _ hy
    obtain ⟨es, zs, rs1, uf, q1, q2, q3, q4⟩ := parts_elems hr hk.2 g4 hvs hm
    subst q2
    have hcal : ca.size = cs.length := by have := g4.len; simp at this; omega
    refine fin es uf [y] zs rs1 q3 ?_ q1
    generalize hel : es.length = n at *
    cases hs with
    | slnil => exact .none rfl
    | sl hθ k1 k2 =>
     rw [g1] at hθ
     simp only [Option.some.injEq, Prod.mk.injEq] at hθ
     obtain ⟨rfl, rfl⟩ := hθ
     exact Dst.row (y := y) (by simp) hy g1 g2 g3 k2 (by rw [hcal]; simpa using k1) (fun i hi d c hd => by
      have := q4 i hi d c hd
      rw [Nat.zero_add] at this
      simpa using this)
   | seq => simp [mrun] at hm
   | loopr => simp [mrun] at hm
   | mpc => simp [mrun] at hm
   | mpb => simp [mrun] at hm
   | mpn => simp [mrun] at hm
   | mit => simp [mrun] at hm
   | sqo => simp [mrun] at hm
   | sqp => simp [mrun] at hm
   | ext => simp [mrun] at hm
 · simp [mrun] at hm
theorem hd2 {α : Type} {l : List α} {a b : α} {r : List α} (h : l = a :: b :: r) : l[0]? = some a ∧ l[1]? = some b := by subst h; exact ⟨rfl, rfl⟩
theorem builtinX_good {b : Builtin} {c : Call} {o : Oper} {a : Act} (ho : o.op = .call c) (hb : c.callee = .builtin b) {nx nx' : Nat} {r : SV} {ups : List (Nat × Option Chunk)} {rs : List Nat} {as : List SV} (hr : HRel P ω w Im θ h) (hfr : ∀ x, nx ≤ x → x < nx' → θ x = none ∧ h x = none)
  (hl : LRel P ω w Im θ as (c.args.map a.eval).toList) (hm : mrun h (builtinX P b c.argTypes.toList as nx) = some (r, ups, nx', rs)) : Good P ω o a w Im θ h r ups nx nx' := by
 have hexec : ∀ (s : Sem Value) (v : Value) (w' : World), s.run P w = .ok v w' → (∀ cs : Array Bool, builtin b c.argTypes o.type cs (c.args.map a.eval) = (do pure (.value (← s)) : Sem Next)) → (execOp a.eval o).run P w = .ok (.value v) w' := by
  intro s v w' hs he
  simp [execOp, ho, resolve, hb, invoke, he, hs]
 unfold builtinX at hm
 split at hm
 · rename_i t t' ts s x hty
   obtain ⟨e1, e2⟩ := hd2 hty
   have hlen := hl.len
   simp only [List.length_cons, List.length_nil] at hlen
   match hus : (c.args.map a.eval).toList, hlen with
   | [us, ux], _ =>
    rw [hus] at hl
    obtain ⟨u1, u2⟩ := hd2 hus
    obtain ⟨v, w', θ', Im', q1, q2, q3, q4⟩ := run_appendX (ty := o.type) hr hfr hm (tys := c.argTypes) (args := c.args.map a.eval) (by simpa using e1) (by simpa using e2) (by simpa using u1) (by simpa using u2) (hl.at_ 0 s us rfl rfl) (hl.at_ 1 x ux rfl rfl)
    exact good_run (hexec _ _ _ q1 (fun _ => rfl)) q2 q3 q4
 · rename_i t ts x hty
   have e1 : c.argTypes[0]? = some t := by
    have := congrArg (·[0]?) hty
    simpa using this
   have hlen := hl.len
   simp only [List.length_cons, List.length_nil] at hlen
   match hus : (c.args.map a.eval).toList, hlen with
   | [ux], _ =>
    rw [hus] at hl
    have u1 : (c.args.map a.eval)[0]? = some ux := by
     have := congrArg (·[0]?) hus
     simpa using this
    obtain ⟨v, q1, q2, rfl, rfl⟩ := run_lenX (ty := o.type) hr hm e1 u1 (hl.at_ 0 x ux rfl rfl)
    exact good_value hr (hexec _ _ _ q1 (fun _ => rfl)) q2
 · rename_i x y
   have hlen := hl.len
   simp only [List.length_cons, List.length_nil] at hlen
   match hus : (c.args.map a.eval).toList, hlen with
   | [ux, uy], _ =>
    rw [hus] at hl
    obtain ⟨v, q1, q2, rfl, rfl⟩ := run_minMaxX (tys := c.argTypes) (ty := o.type) hm (hl.at_ 0 x ux rfl rfl) (hl.at_ 1 y uy rfl rfl) hus
    exact good_value hr (hexec _ _ _ q1 (fun _ => rfl)) q2
 · rename_i x y
   have hlen := hl.len
   simp only [List.length_cons, List.length_nil] at hlen
   match hus : (c.args.map a.eval).toList, hlen with
   | [ux, uy], _ =>
    rw [hus] at hl
    obtain ⟨v, q1, q2, rfl, rfl⟩ := run_minMaxX (tys := c.argTypes) (ty := o.type) hm (hl.at_ 0 x ux rfl rfl) (hl.at_ 1 y uy rfl rfl) hus
    exact good_value hr (hexec _ _ _ q1 (fun _ => rfl)) q2
 · rename_i t t' ts d s hty
   have e1 : c.argTypes[0]? = some t := by
    have := congrArg (·[0]?) hty
    simpa using this
   have hlen := hl.len
   simp only [List.length_cons, List.length_nil] at hlen
   match hus : (c.args.map a.eval).toList, hlen with
   | [ud, us], _ =>
    rw [hus] at hl
    have e : c.args.map a.eval = #[ud, us] := Array.ext' hus
    obtain ⟨v, w', q1, q2, q3, q4, rfl⟩ := run_copyX (ty := o.type) hr hm (hl.at_ 0 _ ud rfl rfl) (hl.at_ 1 _ us rfl rfl) e1 e
    exact good_run (hexec _ _ _ q1 (fun _ => rfl)) (q2.mono (fun _ h => h.elim)) q3 q4
 · rename_i t ts m k hty
   have e1 : c.argTypes[0]? = some t := by
    have := congrArg (·[0]?) hty
    simpa using this
   have hlen := hl.len
   simp only [List.length_cons, List.length_nil] at hlen
   match hus : (c.args.map a.eval).toList, hlen with
   | [um, uk], _ =>
    rw [hus] at hl
    have e : c.args.map a.eval = #[um, uk] := Array.ext' hus
    obtain ⟨w', q1, rfl, rfl, q2, q3⟩ := run_deleteR (T := o.type) hr hm (tys := c.argTypes) (args := c.args.map a.eval) e1 (by rw [e]; rfl) (by rw [e]; rfl) (hl.at_ 0 _ um rfl rfl) (hl.at_ 1 _ uk rfl rfl)
    exact good_run (hexec _ _ _ q1 (fun _ => rfl)) (q2.mono (fun _ h => h.elim)) (.tup rfl (fun i v u hv _ => by simp at hv)) q3
 · rename_i x hty
   have hlen := hl.len
   simp only [List.length_cons, List.length_nil] at hlen
   match hus : (c.args.map a.eval).toList, hlen with
   | [ux], _ =>
    rw [hus] at hl
    have e : c.args.map a.eval = #[ux] := Array.ext' hus
    obtain ⟨v, q1, q2, rfl, rfl⟩ := run_sliceDataX hm (hl.at_ 0 _ ux rfl rfl) c.argTypes o.type
    exact good_value hr (hexec _ _ _ q1 (fun _ => by rw [e]; rfl)) q2
 · rename_i t ts x n hty
   have e1 : c.argTypes[0]? = some t := by
    have := congrArg (·[0]?) hty
    simpa using this
   have hlen := hl.len
   simp only [List.length_cons, List.length_nil] at hlen
   match hus : (c.args.map a.eval).toList, hlen with
   | [ux, un], _ =>
    rw [hus] at hl
    have e : c.args.map a.eval = #[ux, un] := Array.ext' hus
    obtain ⟨v, w', q1, q2, q3, q4, rfl⟩ := run_unsafeStrX (ty := o.type) hr hm (hl.at_ 0 _ ux rfl rfl) (hl.at_ 1 _ un rfl rfl) e1 e
    exact good_run (hexec _ _ _ q1 (fun _ => rfl)) (q2.mono (fun _ h => h.elim)) q3 q4
 · simp [mrun] at hm
theorem ext_weaken {new : Nat → Prop} {h' : HpF} {w' : World} {Im' : Nat → Prop} {θ' : Th} (e : Ext (fun _ => False) h w Im θ h' w' Im' θ') : Ext new h w Im θ h' w' Im' θ' := e.mono (fun _ h => h.elim)
theorem run_sliceX {t : TypeId} {lo hi mx : Option Operand} {x : Operand} {ev : Operand → SV} {a : Act} (hev : ∀ y ∈ (Op.slice t x lo hi mx).operands, VRel P ω w Im θ (ev y) (a.eval y)) {nx nx' : Nat} {r : SV} {ups : List (Nat × Option Chunk)} {rs : List Nat} (hr : HRel P ω w Im θ h)
  (hm : mrun h (sliceX P t lo.isSome hi.isSome mx.isSome ((Op.slice t x lo hi mx).operands.toList.map ev) nx) = some (r, ups, nx', rs)) :
  ∃ v, (Instr.sliceAt t (a.eval x) (lo.map a.eval) (hi.map a.eval) (mx.map a.eval)).run P w = .ok v w ∧ VRel P ω w Im θ r v ∧ ups = [] ∧ nx' = nx := by
 have hm' : mrun h (slcX P t (ev x) (lo.map ev) (hi.map ev) (mx.map ev) nx) = some (r, ups, nx', rs) := by
  cases lo <;> cases hi <;> cases mx <;> first
   | exact hm
   | (simp [sliceX, Op.operands, mrun] at hm; done)
 simp only [Op.operands] at hev
 refine run_slcX hr hm' (hev x (by simp)) (fun h => ?_) (fun v h => ?_) (fun h => ?_) (fun v h => ?_) (fun h => ?_) (fun v h => ?_)
 · cases lo <;> simp_all
 · cases lo with
   | none => cases h
   | some l => cases h; exact ⟨_, rfl, hev l (by simp)⟩
 · cases hi <;> simp_all
 · cases hi with
   | none => cases h
   | some l => cases h; exact ⟨_, rfl, hev l (by simp)⟩
 · cases mx <;> simp_all
 · cases mx with
   | none => cases h
   | some l => cases h; exact ⟨_, rfl, hev l (by simp)⟩
theorem run_fieldAddrX {t : TypeId} {x : SV} {f : Nat} {nx nx' : Nat} {r : SV} {ups : List (Nat × Option Chunk)} {rs : List Nat} (hm : mrun h (fieldAddrX P t x f nx) = some (r, ups, nx', rs)) {u : Value} (hx : VRel P ω w Im θ x u) :
  ∃ v, (Instr.fieldAt t u f).run P w = .ok v w ∧ VRel P ω w Im θ r v ∧ ups = [] ∧ nx' = nx := by
 unfold fieldAddrX at hm
 split at hm
 case h_2 => simp [mrun] at hm
 rename_i fs hu
 split at hm
 case h_2 => simp [mrun] at hm
 rename_i fd hf
 cases hz : Nat.beq (P.cellsOf fd.type) 0 with
 | true => simp [hz, mrun] at hm
 | false =>
  simp only [hz, cond_false] at hm
  have hne : P.cellsOf fd.type ≠ 0 := fun e => by rw [nb_t e] at hz; cases hz
  obtain ⟨i, hi⟩ := info_of_cells hne
  split at hm
  · obtain ⟨rfl, rfl, rfl, _⟩ := mrun_done hm
    cases hx with
    | pel h1 h2 h3 =>
     refine ⟨_, ?_, .pel h1 h2 h3, rfl, rfl⟩
     simp [Instr.fieldAt, run_underlying hu, hf, Instr.sureAddr, fieldPlace, run_sizeOf' hi, hne, add_off, Nat.add_assoc]
  · obtain ⟨rfl, rfl, rfl, _⟩ := mrun_done hm
    cases hx with
    | qp hθ =>
     refine ⟨_, ?_, .qp hθ, rfl, rfl⟩
     simp [Instr.fieldAt, run_underlying hu, hf, Instr.sureAddr, fieldPlace, run_sizeOf' hi, hne, add_off, Nat.add_assoc]
  · obtain ⟨rfl, rfl, rfl, _⟩ := mrun_done hm
    cases hx with
    | qop hθ =>
     refine ⟨_, ?_, .qop hθ, rfl, rfl⟩
     simp [Instr.fieldAt, run_underlying hu, hf, Instr.sureAddr, fieldPlace, run_sizeOf' hi, hne, add_off, Nat.add_assoc]
  · simp [mrun] at hm
theorem run_assertX {t xt : TypeId} {ok : Bool} {x : SV} {nx nx' : Nat} {r : SV} {ups : List (Nat × Option Chunk)} {rs : List Nat} (hm : mrun h (assertX P t ok x nx) = some (r, ups, nx', rs)) {u : Value} (hx : VRel P ω w Im θ x u) :
  ∃ v, (Instr.typeAssert u xt t ok).run P w = .ok v w ∧ VRel P ω w Im θ r v ∧ ups = [] ∧ nx' = nx := by
 have pair : ∀ {v : SV} {u : Value} (b : Bool), VRel P ω w Im θ v u → VRel P ω w Im θ (.tup [v, .bool b]) (.tuple #[u, .bool b]) := by
  intro v u b hv
  refine .tup rfl (fun i x y hx hy => ?_)
  match i, hx, hy with
  | 0, hx, hy => cases hx; cases hy; exact hv
  | 1, hx, hy => cases hx; cases hy; exact .bool
 have hno : ∀ {d : TypeDesc}, P.underlying t = some d → (∀ ms, d ≠ .interface ms) → (u = .nilIface ∨ ∃ t' u', u = .iface t' u' ∧ t' ≠ t) → mrun h (assertNo P t ok nx) = some (r, ups, nx', rs) → ∃ v, (Instr.typeAssert u xt t ok).run P w = .ok v w ∧ VRel P ω w Im θ r v ∧ ups = [] ∧ nx' = nx := by
  intro d hd hni hu hm2
  clear hm
  unfold assertNo at hm2
  have hb0 := bif_fail hm2; clear hm2; obtain ⟨hok, hm⟩ := hb0
  subst hok
  split at hm
  case h_2 => simp [mrun] at hm
  · rename_i z hz
    obtain ⟨rfl, rfl, rfl, -⟩ := mrun_done hm
    unfold zeroS at hz
    cases hi : P.info? t with
    | none => simp [hi] at hz
    | some i =>
     simp only [hi] at hz
     cases hzz : i.zero with
     | none => simp [hzz] at hz
     | some zv =>
      simp only [hzz, Option.some.injEq] at hz
      subst hz
      have hzr : (zeroValue t).run P w = .ok zv w := by simp [zeroValue, typeInfo, hi, hzz]
      refine ⟨.tuple #[zv, .bool false], ?_, pair false (ofValue_rel (ω := ω) w Im θ zv), rfl, rfl⟩
      rcases hu with rfl | ⟨t', u', rfl, hne⟩
      · cases d <;> first | exact (hni _ rfl).elim | simp [Instr.typeAssert, run_underlying hd, hzr]
      · cases d <;> first | exact (hni _ rfl).elim | simp [Instr.typeAssert, run_underlying hd, hzr, hne]
 unfold assertX at hm
 split at hm
 · simp [mrun] at hm
 · simp [mrun] at hm
 · rename_i d t' v hni hd
   cases hx with
   | iface hv =>
    rename_i u'
    cases hb : Nat.beq t' t with
    | false =>
     rw [hb] at hm
     exact hno hd (fun ms e => hni ms e) (.inr ⟨t', u', rfl, by intro e; subst e; simp at hb⟩) (by simpa using hm)
    | true =>
     rw [hb] at hm
     have : t' = t := Nat.eq_of_beq_eq_true hb
     subst this
     obtain ⟨rfl, rfl, rfl, -⟩ := mrun_done (by simpa using hm)
     cases ok with
     | false =>
      refine ⟨u', ?_, hv, rfl, rfl⟩
      cases d <;> first | exact (hni _ rfl).elim | simp [Instr.typeAssert, run_underlying hd]
     | true =>
      refine ⟨.tuple #[u', .bool true], ?_, pair true hv, rfl, rfl⟩
      cases d <;> first | exact (hni _ rfl).elim | simp [Instr.typeAssert, run_underlying hd]
 · rename_i d hni hd
   cases hx
   exact hno hd (fun ms e => hni ms e) (.inl rfl) hm
 · simp [mrun] at hm
theorem opX_good {o : Oper} {a : Act} {ev : Operand → SV} {nx nx' : Nat} {r : SV} {ups : List (Nat × Option Chunk)} {rs : List Nat} (hr : HRel P ω w Im θ h) (hev : ∀ x ∈ o.op.operands, VRel P ω w Im θ (ev x) (a.eval x)) (hfr : ∀ x, nx ≤ x → x < nx' → θ x = none ∧ h x = none)
  (hm : mrun h (opX P o.op (o.op.operands.toList.map ev) nx) = some (r, ups, nx', rs)) : Good P ω o a w Im θ h r ups nx nx' := by
 obtain ⟨dst, op, type, pos, after, guard⟩ := o
 simp only at hm hev
 cases op
 case load t x =>
  have hx := hev x (by simp [Op.operands])
  obtain ⟨v, h1, h2, rfl, rfl⟩ := run_loadX hr hm hx
  exact good_value hr (by simp [execOp, h1]) h2
 case store t x v =>
  obtain ⟨w', Im', h1, rfl, rfl, h2, h3⟩ := run_storeX hr hm (hev x (by simp [Op.operands])) (hev v (by simp [Op.operands]))
  exact good_skip (by simp [execOp, h1]) (ext_weaken h2) h3
 case makeInterface t x =>
  have hx := hev x (by simp [Op.operands])
  simp only [opX, Op.operands, List.map_cons, List.map_nil] at hm
  split at hm
  · simp [mrun] at hm
  · rename_i d hni hd
    obtain ⟨rfl, rfl, rfl, _⟩ := mrun_done hm
    refine good_value hr (v := .iface t (a.eval x)) ?_ (.iface hx)
    cases d <;> first | exact (hni _ rfl).elim | simp [execOp, Instr.makeInterface, run_underlying hd]
  · simp [mrun] at hm
 case typeAssert x xt t ok =>
  obtain ⟨v, h1, h2, rfl, rfl⟩ := run_assertX (xt := xt) hm (hev x (by simp [Op.operands]))
  exact good_value hr (by simp [execOp, h1]) h2
 case nilCheck x =>
  have hx := hev x (by simp [Op.operands])
  simp only [Op.operands, List.map_cons, List.map_nil] at hm
  generalize hux : a.eval x = u at hx
  generalize ev x = z at hx hm
  cases z <;> simp only [opX] at hm <;> try (simp [mrun] at hm; done)
  · obtain ⟨rfl, rfl, rfl, _⟩ := mrun_done hm
    refine good_value hr ?_ hx
    cases hx
    simp [execOp, hux]
  · obtain ⟨rfl, rfl, rfl, _⟩ := mrun_done hm
    refine good_value hr ?_ hx
    cases hx
    simp [execOp, hux]
 case fieldAddr t x f =>
  obtain ⟨v, h1, h2, rfl, rfl⟩ := run_fieldAddrX hm (hev x (by simp [Op.operands]))
  exact good_value hr (by simp [execOp, h1]) h2
 case indexAddr t x ix =>
  obtain ⟨v, h1, h2, rfl, rfl⟩ := run_indexAddrX hm (hev x (by simp [Op.operands])) (hev ix (by simp [Op.operands]))
  exact good_value hr (by simp [execOp, h1]) h2
 case slice t x lo hi mx =>
  simp only [opX] at hm
  split at hm
  · rename_i y sz n k l hops
    have hb0 := bif_fail hm; clear hm; obtain ⟨hb, hm⟩ := hb0
    cases lo with
    | none => simp at hb
    | some lo =>
     cases hi with
     | some _ => simp at hb
     | none =>
      cases mx with
      | some _ => simp at hb
      | none =>
       simp [Op.operands] at hops
       have hx := hev x (by simp [Op.operands])
       rw [hops.1] at hx
       have hlo := hev lo (by simp [Op.operands])
       rw [hops.2] at hlo
       obtain ⟨v, w', θ', Im', h1, h2, h3, h4⟩ := run_slcQ hr hfr hm hx hlo
       exact good_run (by simp [execOp, h1]) h2 h3 h4
  · obtain ⟨v, h1, h2, rfl, rfl⟩ := run_sliceX hev hr hm
    exact good_value hr (by simp [execOp, h1]) h2
 case sliceToArrayPointer t x =>
  obtain ⟨v, h1, h2, rfl, rfl⟩ := run_s2apX hm (hev x (by simp [Op.operands]))
  exact good_value hr (by simp [execOp, h1]) h2
 case makeSlice t l c =>
  have hl := hev l (by simp [Op.operands])
  have hc := hev c (by simp [Op.operands])
  simp only [opX, Op.operands, List.map_cons, List.map_nil] at hm
  obtain ⟨v, w', θ', Im', h1, h2, h3, h4⟩ := run_makeStrX hr hfr hm hl hc
  exact good_run (by simp [execOp, h1]) h2 h3 h4
 case makeMap t rv =>
  cases rv with
  | some n =>
   have hn := hev n (by simp [Op.operands])
   simp only [opX, Op.operands, Option.toArray_some, List.map_cons, List.map_nil] at hm
   have hb0 := bif_fail hm; clear hm; obtain ⟨hi, hm⟩ := hb0
   obtain ⟨v, w', θ', Im', h1, h2, h3, h4⟩ := run_makeMapAny (rv := some (a.eval n)) hr hfr hm (fun m hmm => by
    cases hmm
    unfold isIntV at hi
    split at hi
    · rename_i i hq
      rw [hq] at hn
      generalize a.eval n = z at hn
      cases hn
      exact ⟨_, rfl⟩
    · cases hi)
   exact good_run (by simp [execOp, h1]) h2 h3 h4
  | none =>
   simp only [opX, Op.operands, Option.toArray_none, List.map_nil] at hm
   obtain ⟨v, w', θ', Im', h1, h2, h3, h4⟩ := run_makeMapAny (rv := none) hr hfr hm (fun m hmm => by cases hmm)
   exact good_run (by simp [execOp, h1]) h2 h3 h4
 case range t x =>
  simp only [opX, Op.operands, List.map_cons, List.map_nil] at hm
  obtain ⟨v, w', θ', Im', h1, h2, h3, h4⟩ := run_rangeR hr hfr hm (hev x (by simp [Op.operands]))
  exact good_run (by simp [execOp, h1]) h2 h3 h4
 case next x str =>
  cases str with
  | true => simp [opX, Op.operands, mrun] at hm
  | false =>
   simp only [opX, Op.operands, List.map_cons, List.map_nil, cond_false] at hm
   obtain ⟨v, w', h1, h2, rfl, h3, h4⟩ := run_nextR hr hm (hev x (by simp [Op.operands])) type
   exact good_run (by simp [execOp, h1]) (ext_weaken h3) h2 h4
 case entry x =>
  simp only [opX, Op.operands, List.map_cons, List.map_nil] at hm
  obtain ⟨v, h1, h2, rfl, rfl⟩ := run_entryR hr hm (hev x (by simp [Op.operands]))
  exact good_value hr (by simp [execOp, h1]) h2
 case insert t m k x =>
  simp only [opX, Op.operands, List.map_cons, List.map_nil] at hm
  cases hrow : rowMapT P t with
  | true =>
   rw [hrow] at hm
   obtain ⟨w', h1, rfl, rfl, h2, h3⟩ := run_mapSetR hr hm (hev m (by simp [Op.operands])) (hev k (by simp [Op.operands])) (hev x (by simp [Op.operands]))
   exact good_skip (by simp [execOp, h1]) (ext_weaken h2) h3
  | false =>
   rw [hrow] at hm
   obtain ⟨w', h1, rfl, rfl, h2, h3⟩ := run_mapSetX hr hm (hev m (by simp [Op.operands])) (hev k (by simp [Op.operands])) (hev x (by simp [Op.operands]))
   exact good_skip (by simp [execOp, h1]) (ext_weaken h2) h3
 case mapUpdate t m k x =>
  simp only [opX, Op.operands, List.map_cons, List.map_nil] at hm
  cases hrow : rowMapT P t with
  | true =>
   rw [hrow] at hm
   obtain ⟨w', h1, rfl, rfl, h2, h3⟩ := run_mapSetR hr hm (hev m (by simp [Op.operands])) (hev k (by simp [Op.operands])) (hev x (by simp [Op.operands]))
   exact good_skip (by simp [execOp, h1]) (ext_weaken h2) h3
  | false =>
   rw [hrow] at hm
   obtain ⟨w', h1, rfl, rfl, h2, h3⟩ := run_mapSetX hr hm (hev m (by simp [Op.operands])) (hev k (by simp [Op.operands])) (hev x (by simp [Op.operands]))
   exact good_skip (by simp [execOp, h1]) (ext_weaken h2) h3
 case lookup t m k ok =>
  simp only [opX, Op.operands, List.map_cons, List.map_nil] at hm
  cases hrow : rowMapT P t with
  | true =>
   rw [hrow] at hm
   obtain ⟨v, h1, h2, rfl, rfl⟩ := run_lookupR hr hm (hev m (by simp [Op.operands])) (hev k (by simp [Op.operands]))
   exact good_value hr (by simp [execOp, h1]) h2
  | false =>
   rw [hrow] at hm
   obtain ⟨v, h1, h2, rfl, rfl⟩ := run_lookupX hr hm (hev m (by simp [Op.operands])) (hev k (by simp [Op.operands]))
   exact good_value hr (by simp [execOp, h1]) h2
 case convert s d x =>
  obtain ⟨v, w', θ', Im', h1, h2, h3, h4⟩ := run_convX hr hfr hm (hev x (by simp [Op.operands]))
  exact good_run (by simp [execOp, h1]) h2 h3 h4
 case unOp op t x =>
  have hx := hev x (by simp [Op.operands])
  simp only [Op.operands, List.map_cons, List.map_nil] at hm
  generalize hux : a.eval x = u at hx
  generalize ev x = z at hx hm
  cases op <;> (try (simp [opX, mrun] at hm; done))
  cases z <;> simp only [opX] at hm <;> try (simp [mrun] at hm; done)
  obtain ⟨rfl, rfl, rfl, _⟩ := mrun_done hm
  cases hx
  exact good_value hr (by simp [execOp, hux, Op.unary, Op.intBits]) .int
 case binOp op t x y yt =>
  have hx := hev x (by simp [Op.operands])
  have hy := hev y (by simp [Op.operands])
  simp only [Op.operands, List.map_cons, List.map_nil] at hm
  generalize hux : a.eval x = u at hx
  generalize huy : a.eval y = v at hy
  generalize ev x = z at hx hm
  generalize ev y = z' at hy hm
  have fin : ∀ (b : Bool), isEq op = some b → ∀ {e : TypeId}, P.underlying t = some (.slice e) → ((∃ q n cap, u = .slice (some q) n cap ∧ v = .slice none 0 0) ∨ (∃ q n cap, v = .slice (some q) n cap ∧ u = .slice none 0 0)) →
    (execOp a.eval { dst := dst, op := .binOp op t x y yt, type := type, pos := pos, after := after, guard := guard }).run P w = .ok (.value (.bool (!b))) w := by
   intro b hb e hu hc
   simp only [execOp, hux, huy]
   have h1 : ¬ (u = .nilIface ∧ v = .nilIface) := by
    rcases hc with ⟨q, n, cap, rfl, rfl⟩ | ⟨q, n, cap, rfl, rfl⟩ <;> (rintro ⟨h, _⟩; cases h)
   have h2 : ∀ xs ys, ¬ (u = .agg xs ∧ v = .agg ys) := by
    rcases hc with ⟨q, n, cap, rfl, rfl⟩ | ⟨q, n, cap, rfl, rfl⟩ <;> (rintro xs ys ⟨h, _⟩; cases h)
   have hq : (Op.equal t u v).run P w = .ok false w := by
    rw [equal_succ]
    generalize (9999 : Nat) = D
    rcases hc with ⟨q, n, cap, rfl, rfl⟩ | ⟨q, n, cap, rfl, rfl⟩ <;> simp [Op.equalIn, run_underlying hu]
   have g := run_eqGuard_skip (P := P) (op := op) (t := t) (x := x) (y := y) (w := w) h1 h2
   have hbin : (binOp op t u v).run P w = .ok (.bool (!b)) w := by
    rcases isEq_some hb with ⟨rfl, rfl⟩ | ⟨rfl, rfl⟩ <;> rcases hc with ⟨q, n, cap, rfl, rfl⟩ | ⟨q, n, cap, rfl, rfl⟩ <;> simp [binOp, hq]
   simp [g, hbin]
  simp only [opX] at hm
  split at hm
  · rename_i hu hb
    have hb0 := bif_fail hm; clear hm; obtain ⟨hk, hm⟩ := hb0
    obtain ⟨rfl, rfl, rfl, _⟩ := mrun_done hm
    refine good_value hr ?_ .bool
    cases hx
    cases hy
    obtain ⟨c, rfl⟩ : ∃ c, y = .const c := by
     cases y <;> first | exact ⟨_, rfl⟩ | cases hk
    have hq : (Op.equal t .nilIface .nilIface).run P w = .ok true w := by
     rw [equal_succ]
     generalize (9999 : Nat) = D
     simp [Op.equalIn, run_underlying hu]
    simp only [execOp, hux, huy]
    rcases isEq_some hb with ⟨rfl, rfl⟩ | ⟨rfl, rfl⟩ <;> simp [eqGuard, binOp, hq]
  · rename_i hu hb
    obtain ⟨rfl, rfl, rfl, _⟩ := mrun_done hm
    refine good_value hr (fin _ hb hu ?_) .bool
    cases hx
    cases hy
    exact .inl ⟨_, _, _, rfl, rfl⟩
  · rename_i hu hb
    obtain ⟨rfl, rfl, rfl, _⟩ := mrun_done hm
    refine good_value hr (fin _ hb hu ?_) .bool
    cases hx
    cases hy
    exact .inr ⟨_, _, _, rfl, rfl⟩
  · rename_i hu hb
    obtain ⟨rfl, rfl, rfl, _⟩ := mrun_done hm
    refine good_value hr (fin _ hb hu ?_) .bool
    cases hx
    cases hy
    exact .inl ⟨_, _, _, rfl, rfl⟩
  · rename_i hu hb
    have hb0 := mrun_ite_fail' hm; clear hm; obtain ⟨hc, hm⟩ := hb0
    obtain ⟨rfl, rfl, rfl, _⟩ := mrun_done hm
    have hc' := of_decide_eq_true hc
    refine good_value hr (fin _ hb hu ?_) .bool
    cases hx with
    | qs _ _ _ =>
     cases hy
     exact .inl ⟨_, _, _, rfl, rfl⟩
    | qsnil h0 => omega
  · rename_i e a1 i1 b1 j1 r1 hu hb
    have hb0 := bif_fail hm; clear hm; obtain ⟨hk, hm⟩ := hb0
    simp only [Bool.and_eq_true] at hk
    have : a1 = b1 := Nat.eq_of_beq_eq_true hk.1.2
    subst this
    have : i1 = j1 := Nat.eq_of_beq_eq_true hk.2
    subst this
    obtain ⟨q, hq⟩ := known_info hk.1.1
    obtain ⟨rfl, rfl, rfl, _⟩ := mrun_done hm
    refine good_value hr ?_ .bool
    cases hx with
    | ptr g1 =>
     cases hy with
     | ptr g2 =>
      rw [g1] at g2
      simp only [Option.some.injEq, Prod.mk.injEq] at g2
      obtain ⟨rfl, rfl⟩ := g2
      simp only [execOp, hux, huy]
      rename_i bb NN
      have heq : (Op.equal t (.pointer (some ⟨bb, i1, none⟩)) (.pointer (some ⟨bb, i1, none⟩))).run P w = .ok true w := by
       rw [equal_succ]
       generalize (9999 : Nat) = D
       simp [Op.equalIn, run_underlying hu, sizeOf, typeInfo, hq, run_sameAddr_same]
      have g := run_eqGuard_skip (P := P) (op := op) (t := t) (x := x) (y := y) (w := w) (a := .pointer (some ⟨bb, i1, none⟩)) (b := .pointer (some ⟨bb, i1, none⟩)) (by rintro ⟨h, _⟩; cases h) (by rintro xs ys ⟨h, _⟩; cases h)
      have hbin : (binOp op t (.pointer (some ⟨bb, i1, none⟩)) (.pointer (some ⟨bb, i1, none⟩))).run P w = .ok (.bool r1) w := by
       rcases isEq_some hb with ⟨rfl, rfl⟩ | ⟨rfl, rfl⟩ <;> simp [binOp, heq]
      simp [g, hbin]
  · simp [mrun] at hm
 case call c =>
  simp only [opX] at hm
  split at hm
  · rename_i b hb
    refine builtinX_good (c := c) (b := b) rfl hb hr hfr ?_ hm
    simp only [Op.operands, Call.operands, hb] at hev ⊢
    refine ⟨by simp, fun i v u hv hu => ?_⟩
    simp only [List.getElem?_map, Array.getElem?_toList, Option.map_eq_some_iff] at hv
    obtain ⟨q, hq, rfl⟩ := hv
    simp only [Array.toList_map, List.getElem?_map, Array.getElem?_toList, Option.map_eq_some_iff] at hu
    obtain ⟨q', hq', rfl⟩ := hu
    simp only [Array.empty_append] at hq
    rw [hq'] at hq
    cases hq
    exact hev _ (by simp; exact Array.mem_of_getElem? hq')
  · rename_i f hcal
    split at hm
    case h_2 => simp [mrun] at hm
    rename_i g args has
    obtain ⟨callee, cargs, argTypes⟩ := c
    simp only at hcal
    subst hcal
    simp only [Op.operands, Call.operands] at has hev
    have has' : ev f :: cargs.toList.map ev = .fn (.func g) [] [] :: args := by simpa using has
    simp only [List.cons.injEq] at has'
    obtain ⟨he, rfl⟩ := has'
    have hf := hev f (by simp)
    rw [he] at hf
    generalize hu : a.eval f = u at hf
    cases hf with
    | fn h1 h2 h3 h4 =>
     rename_i us vs
     have e1 : us = #[] := by apply Array.ext'; exact List.eq_nil_of_length_eq_zero (by simpa using h1.symm)
     have e2 : vs = #[] := by apply Array.ext'; exact List.eq_nil_of_length_eq_zero (by simpa using h2.symm)
     subst e1
     subst e2
     have hl : LRel P ω w Im θ (cargs.toList.map ev) (cargs.map a.eval).toList := by
      refine ⟨by simp, fun i v u hv hu => ?_⟩
      simp only [List.getElem?_map, Array.getElem?_toList, Option.map_eq_some_iff] at hv
      obtain ⟨q, hq, rfl⟩ := hv
      simp only [Array.toList_map, List.getElem?_map, Array.getElem?_toList, Option.map_eq_some_iff] at hu
      obtain ⟨q', hq', rfl⟩ := hu
      rw [hq'] at hq
      cases hq
      exact hev _ (by simp; exact .inr (Array.mem_of_getElem? hq'))
     obtain ⟨v, w', θ', Im', q1, q2, q3, q4⟩ := run_externX hr hfr hm hl
     refine good_run ?_ q2 q3 q4
     have : (execOp a.eval { dst := dst, op := .call { callee := .value f, args := cargs, argTypes := argTypes }, type := type, pos := pos, after := after, guard := guard }).run P w = (callFunc g (cargs.map a.eval)).run P w := by
      simp [execOp, resolve, hu, Deferred.ofValue, invoke]
     rw [this]
     exact q1
  · simp [mrun] at hm
 all_goals (simp [opX, mrun] at hm)
end
end Go.Am
/- The abstract machine: a call, by what is known of the callee. -/
namespace Go.Am
variable {P : Program} {ω : Nat → Value}
def Canon (H : HpL) : Prop := ∀ (i : Nat) p, H[i]? = some p → p.1 = i
def ValidC (P : Program) (f : FuncId) (s : CSumm) : Prop :=
 ∀ (args : List SV) (H : HpL) v ups, crun (s args H) = some (v, ups) → Canon H → ∀ (ω : Nat → Value) (θ : Th) (Im : Nat → Prop) (w : World) (us : List Value),
  LRel P ω w Im θ args us → HRel P ω w Im θ H.get → (∀ x, H.length ≤ x → θ x = none) →
  Calls P f us.toArray w fun e w' => ∃ u θ' Im', e = .returned u ∧ Ext (fun x => H.length ≤ x) H.get w Im θ (updF ups H.get) w' Im' θ' ∧ VRel P ω w' Im' θ' v u ∧ HRel P ω w' Im' θ' (updF ups H.get)
theorem namesS_mem {v : SV} {vs : List SV} (h : v ∈ vs) : ∀ x ∈ namesS v, x ∈ namesL vs := by
 induction vs with
 | nil => cases h
 | cons w vs ih =>
  intro x hx
  simp only [namesL, List.mem_append]
  rcases List.mem_cons.1 h with rfl | h
  · exact .inl hx
  · exact .inr (ih h x hx)
theorem renL_eq (f : Nat → Nat) (vs : List SV) : renL f vs = vs.map (renS f) := by
 induction vs with
 | nil => rfl
 | cons v vs ih => simp [renL, ih]
theorem VRel.ren {w : World} {Im : Nat → Prop} {θ : Th} {v : SV} {u : Value} (h : VRel P ω w Im θ v u) : ∀ {θ2 : Th} (f : Nat → Nat), (∀ x ∈ namesS v, ∀ p, θ x = some p → θ2 (f x) = some p) → VRel P ω w Im θ2 (renS f v) u := by
 have lst : ∀ {ω : Nat → Value} {θ θ2 : Th} (f : Nat → Nat) (cs : List SV) (us : Array Value),
   (∀ (i : Nat) (v : SV) (u : Value), cs[i]? = some v → us[i]? = some u → ∀ {θ2 : Th} (f : Nat → Nat), (∀ x ∈ namesS v, ∀ p, θ x = some p → θ2 (f x) = some p) → VRel P ω w Im θ2 (renS f v) u) →
   (∀ x ∈ namesL cs, ∀ p, θ x = some p → θ2 (f x) = some p) → ∀ (i : Nat) (v : SV) (u : Value), (renL f cs)[i]? = some v → us[i]? = some u → VRel P ω w Im θ2 v u := by
  intro ω θ θ2 f cs us ih hn i v u hv hu
  rw [renL_eq, List.getElem?_map, Option.map_eq_some_iff] at hv
  obtain ⟨c, hc, rfl⟩ := hv
  exact ih i c u hc hu f (fun x hx => hn x (namesS_mem (List.mem_of_getElem? hc) x hx))
 induction h with
 | junk => intro _ f _; exact .junk
 | opq => intro _ f _; exact .opq
 | pnn h _ => intro _ f _; exact .pnn (by cases h with | psl us h1 h0 h2 h3 h4 => exact .psl us h1 h0 h2 h3 h4)
 | emp => intro _ f _; exact .emp
 | qs h1 h2 h3 => intro _ f hn; exact .qs (hn _ (by simp [namesS]) _ h1) h2 h3
 | qsnil h => intro _ f _; exact .qsnil h
 | qp h => intro _ f hn; exact .qp (hn _ (by simp [namesS]) _ h)
 | qo h1 h2 => intro _ f hn; exact .qo (hn _ (by simp [namesS]) _ h1) h2
 | qonil h => intro _ f hn; exact .qonil h
 | qop h => intro _ f hn; exact .qop (hn _ (by simp [namesS]) _ h)
 | bool => intro _ f _; exact .bool
 | int => intro _ f _; exact .int
 | str h => intro _ f _; exact .str h
 | ptr h => intro _ f hn; exact .ptr (hn _ (by simp [namesS]) _ h)
 | nilp => intro _ f _; exact .nilp
 | pel h1 h2 h3 _ => intro _ f _; exact .pel h1 h2 h3
 | sl h1 h2 h3 => intro _ f hn; exact .sl (hn _ (by simp [namesS]) _ h1) h2 h3
 | slnil => intro _ f _; exact .slnil
 | nils => intro _ f _; exact .nils
 | psl us h1 h0 h2 h3 h4 _ => intro _ f _; exact .psl us h1 h0 h2 h3 h4
 | mp h => intro _ f hn; exact .mp (hn _ (by simp [namesS]) _ h)
 | nilm => intro _ f _; exact .nilm
 | yl h => intro _ f hn; exact .yl (hn _ (by simp [namesS]) _ h)
 | fn h1 h2 _ _ ih1 ih2 =>
  intro θ2 f hn
  simp only [namesS, List.mem_append] at hn
  simp only [renS]
  exact .fn (by rw [renL_eq]; simpa using h1) (by rw [renL_eq]; simpa using h2) (lst f _ _ ih1 (fun x hx => hn x (.inl hx))) (lst f _ _ ih2 (fun x hx => hn x (.inr hx)))
 | nilf => intro _ f _; exact .nilf
 | gp => intro _ f _; exact .gp
 | iface _ ih => intro _ f hn; simp only [renS]; exact .iface (ih f (by simpa [namesS] using hn))
 | nili => intro _ f _; exact .nili
 | agg h1 _ ih =>
  intro θ2 f hn
  simp only [renS]
  exact .agg (by rw [renL_eq]; simpa using h1) (lst f _ _ ih (by simpa [namesS] using hn))
 | tup h1 _ ih =>
  intro θ2 f hn
  simp only [renS]
  exact .tup (by rw [renL_eq]; simpa using h1) (lst f _ _ ih (by simpa [namesS] using hn))
theorem LRel.ren {w : World} {Im : Nat → Prop} {θ θ2 : Th} {cs : List SV} {us : List Value} (h : LRel P ω w Im θ cs us) (f : Nat → Nat) (hn : ∀ x ∈ namesL cs, ∀ p, θ x = some p → θ2 (f x) = some p) : LRel P ω w Im θ2 (renL f cs) us := by
 refine ⟨by rw [renL_eq]; simpa using h.len, fun i v u hv hu => ?_⟩
 rw [renL_eq, List.getElem?_map, Option.map_eq_some_iff] at hv
 obtain ⟨c, hc, rfl⟩ := hv
 exact (h.at_ i c u hc hu).ren f (fun x hx => hn x (namesS_mem (List.mem_of_getElem? hc) x hx))
theorem namesL_keysB (kd : IntKind) : ∀ kvs : List (Int × Bool), namesL (keysB kd kvs) = []
 | [] => rfl
 | _ :: l => namesL_keysB kd l
theorem namesL_valsB : ∀ kvs : List (Int × Bool), namesL (valsB kvs) = []
 | [] => rfl
 | _ :: l => namesL_valsB l
theorem renL_keysB (f : Nat → Nat) (kd : IntKind) : ∀ kvs : List (Int × Bool), renL f (keysB kd kvs) = keysB kd kvs
 | [] => rfl
 | p :: l => by show _ :: renL f (keysB kd l) = _ :: keysB kd l; rw [renL_keysB f kd l]; rfl
theorem renL_valsB (f : Nat → Nat) : ∀ kvs : List (Int × Bool), renL f (valsB kvs) = valsB kvs
 | [] => rfl
 | p :: l => by show _ :: renL f (valsB l) = _ :: valsB l; rw [renL_valsB f l]; rfl
theorem CRel.ren {w : World} {Im : Nat → Prop} {θ θ2 : Th} {x : Nat} {c : Chunk} (h : CRel P ω w Im θ x c) (f : Nat → Nat) (hn : ∀ x ∈ namesC c, ∀ p, θ x = some p → θ2 (f x) = some p) {y : Nat} (hy : θ2 y = θ x) : CRel P ω w Im θ2 y (renC f c) := by
 cases c with
 | cells T vs =>
  obtain ⟨b, cs, fr, h1, h2, h3, h4⟩ := h
  exact ⟨b, cs, fr, by rw [hy, h1, renL_eq]; simp, h2, h3, h4.ren f hn⟩
 | seq e es =>
  rcases h with ⟨h1, h2⟩ | ⟨b, N, cs, T, fr, us, h1, h2⟩
  · exact .inl ⟨h1, by rw [hy]; exact h2⟩
  · exact .inr ⟨b, N, cs, T, fr, us, by rw [hy]; exact h1, h2⟩
 | loopr st vs ps asg bdy =>
  obtain ⟨b, N, lp, h1, h2, h3, h4, h5, h6, h7⟩ := h
  exact ⟨b, N, lp, by rw [hy]; exact h1, h2, h3, h4, h5, h6, h7.ren f hn⟩
 | mpc ks vs =>
  obtain ⟨b, N, es, cl, h1, h2, h3, h4, h5⟩ := h
  exact ⟨b, N, es, cl, by rw [hy]; exact h1, h2, h3.ren f (fun x hx => hn x (List.mem_append.2 (.inl hx))), h4.ren f (fun x hx => hn x (List.mem_append.2 (.inr hx))), h5⟩
 | mpn bs cl ks vs =>
  obtain ⟨b, N, es, h1, h2, h3, h4, h5⟩ := h
  exact ⟨b, N, es, by rw [hy]; exact h1, h2, h3.ren f (fun x hx => hn x (List.mem_append.2 (.inl hx))), h4.ren f (fun x hx => hn x (List.mem_append.2 (.inr hx))), h5⟩
 | ext c =>
  show XRel P w Im (θ2 y) c
  rw [hy]
  exact h
 | sqp e es =>
  obtain ⟨b, N, cs, fr, h1, h2, h3, h4, h5, h6⟩ := h
  have hl : (renL f es).length = es.length := by rw [renL_eq]; simp
  exact ⟨b, N, cs, fr, by rw [hy]; exact h1, h2, h3, h4, by rw [hl]; exact h5, by rw [hl]; exact h6.ren f hn⟩
 | sqo e es =>
  obtain ⟨b, off, cap, cs, fr, us, h1, h2⟩ := h
  exact ⟨b, off, cap, cs, fr, us, by rw [hy]; exact h1, h2⟩
 | mit z since seen last =>
  obtain ⟨b, N, zb, zN, h1, h2, h3⟩ := h
  exact ⟨b, N, zb, zN, by rw [hy]; exact h1, hn z (by simp [namesC]) _ h2, h3⟩
 | mpb kd kvs =>
  obtain ⟨b, N, es, cl, h1, h2, h3, h4, h5⟩ := h
  have e1 : ∀ x ∈ namesL (keysB kd kvs), ∀ p, θ x = some p → θ2 (f x) = some p := fun x hx => by rw [namesL_keysB] at hx; cases hx
  have e2 : ∀ x ∈ namesL (valsB kvs), ∀ p, θ x = some p → θ2 (f x) = some p := fun x hx => by rw [namesL_valsB] at hx; cases hx
  have g3 := h3.ren f e1
  have g4 := h4.ren f e2
  rw [renL_keysB] at g3
  rw [renL_valsB] at g4
  exact ⟨b, N, es, cl, by rw [hy]; exact h1, h2, g3, g4, h5⟩
mutual
theorem renS_id (f g : Nat → Nat) : ∀ (v : SV), (∀ x ∈ namesS v, g (f x) = x) → renS g (renS f v) = v
 | .ptr x o, h => by simp only [renS]; rw [h x (by simp [namesS])]
 | .sl x sz o l, h => by simp only [renS]; rw [h x (by simp [namesS])]
 | .qs x sz o l, h => by simp only [renS]; rw [h x (by simp [namesS])]
 | .qp x sz o l, h => by simp only [renS]; rw [h x (by simp [namesS])]
 | .qo x sz o, h => by simp only [renS]; rw [h x (by simp [namesS])]
 | .qop x sz o l, h => by simp only [renS]; rw [h x (by simp [namesS])]
 | .mp x, h => by simp only [renS]; rw [h x (by simp [namesS])]
 | .yl x, h => by simp only [renS]; rw [h x (by simp [namesS])]
 | .fn k a b, h => by
  simp only [namesS, List.mem_append] at h
  simp only [renS]
  rw [renL_id f g a (fun x hx => h x (.inl hx)), renL_id f g b (fun x hx => h x (.inr hx))]
 | .iface t v, h => by simp only [renS]; rw [renS_id f g v (by simpa [namesS] using h)]
 | .agg cs, h => by simp only [renS]; rw [renL_id f g cs (by simpa [namesS] using h)]
 | .tup cs, h => by simp only [renS]; rw [renL_id f g cs (by simpa [namesS] using h)]
 | .junk, _ | .pnn _ _, _ | .opq _, _ | .emp, _ | .bool _, _ | .int _ _, _ | .str _, _ | .nilp, _ | .pel _ _, _ | .nils, _ | .psl _ _, _ | .nilm, _ | .nilf, _ | .nili, _ | .gp _ _, _ => rfl
theorem renL_id (f g : Nat → Nat) : ∀ (vs : List SV), (∀ x ∈ namesL vs, g (f x) = x) → renL g (renL f vs) = vs
 | [], _ => rfl
 | v :: vs, h => by
  simp only [namesL, List.mem_append] at h
  simp only [renL]
  rw [renS_id f g v (fun x hx => h x (.inl hx)), renL_id f g vs (fun x hx => h x (.inr hx))]
end
mutual
theorem namesS_ren (f : Nat → Nat) (z : Nat) : ∀ (v : SV), z ∈ namesS (renS f v) → ∃ y ∈ namesS v, z = f y
 | .ptr x o, h => ⟨x, by simp [namesS], by simpa [renS, namesS] using h⟩
 | .sl x sz o l, h => ⟨x, by simp [namesS], by simpa [renS, namesS] using h⟩
 | .qs x sz o l, h => ⟨x, by simp [namesS], by simpa [renS, namesS] using h⟩
 | .qp x sz o l, h => ⟨x, by simp [namesS], by simpa [renS, namesS] using h⟩
 | .qo x sz o, h => ⟨x, by simp [namesS], by simpa [renS, namesS] using h⟩
 | .qop x sz o l, h => ⟨x, by simp [namesS], by simpa [renS, namesS] using h⟩
 | .mp x, h => ⟨x, by simp [namesS], by simpa [renS, namesS] using h⟩
 | .yl x, h => ⟨x, by simp [namesS], by simpa [renS, namesS] using h⟩
 | .fn k a b, h => by
  simp only [renS, namesS, List.mem_append] at h
  rcases h with h | h
  · obtain ⟨y, hy, e⟩ := namesL_ren f z a h
    exact ⟨y, by simp only [namesS, List.mem_append]; exact .inl hy, e⟩
  · obtain ⟨y, hy, e⟩ := namesL_ren f z b h
    exact ⟨y, by simp only [namesS, List.mem_append]; exact .inr hy, e⟩
 | .iface t v, h => by
  obtain ⟨y, hy, e⟩ := namesS_ren f z v (by simpa [renS, namesS] using h)
  exact ⟨y, by simpa [namesS] using hy, e⟩
 | .agg cs, h => by
  obtain ⟨y, hy, e⟩ := namesL_ren f z cs (by simpa [renS, namesS] using h)
  exact ⟨y, by simpa [namesS] using hy, e⟩
 | .tup cs, h => by
  obtain ⟨y, hy, e⟩ := namesL_ren f z cs (by simpa [renS, namesS] using h)
  exact ⟨y, by simpa [namesS] using hy, e⟩
 | .junk, h | .pnn _ _, h | .opq _, h | .emp, h | .bool _, h | .int _ _, h | .str _, h | .nilp, h | .pel _ _, h | .nils, h | .psl _ _, h | .nilm, h | .nilf, h | .nili, h => by simp [renS, namesS] at h
theorem namesL_ren (f : Nat → Nat) (z : Nat) : ∀ (vs : List SV), z ∈ namesL (renL f vs) → ∃ y ∈ namesL vs, z = f y
 | [], h => by simp [renL, namesL] at h
 | v :: vs, h => by
  simp only [renL, namesL, List.mem_append] at h
  rcases h with h | h
  · obtain ⟨y, hy, e⟩ := namesS_ren f z v h
    exact ⟨y, by simp only [namesL, List.mem_append]; exact .inl hy, e⟩
  · obtain ⟨y, hy, e⟩ := namesL_ren f z vs h
    exact ⟨y, by simp only [namesL, List.mem_append]; exact .inr hy, e⟩
end
theorem renC_id (f g : Nat → Nat) (c : Chunk) (h : ∀ x ∈ namesC c, g (f x) = x) : renC g (renC f c) = c := by
 cases c with
 | cells T vs => simp only [renC]; rw [renL_id f g vs h]
 | seq e es => rfl
 | loopr st vs ps asg bdy => simp only [renC]; rw [renL_id f g vs h]
 | mpc ks vs => simp only [renC]; rw [renL_id f g ks (fun x hx => h x (List.mem_append.2 (.inl hx))), renL_id f g vs (fun x hx => h x (List.mem_append.2 (.inr hx)))]
 | mpb kd kvs => rfl
 | mpn bs cl ks vs => simp only [renC]; rw [renL_id f g ks (fun x hx => h x (List.mem_append.2 (.inl hx))), renL_id f g vs (fun x hx => h x (List.mem_append.2 (.inr hx)))]
 | mit z since seen last => simp only [renC]; rw [h z (by simp [namesC])]
 | sqo e es => rfl
 | sqp e es => simp only [renC]; rw [renL_id f g es h]
 | ext c => rfl
theorem memN_iff : ∀ (x : Nat) (l : List Nat), memN x l = true ↔ x ∈ l
 | x, [] => by simp [memN]
 | x, y :: l => by
  have ih := memN_iff x l
  simp only [memN, Bool.or_eq_true, List.mem_cons, ih]
  constructor
  · rintro (h | h)
    · exact .inl (Nat.eq_of_beq_eq_true h)
    · exact .inr h
  · rintro (h | h)
    · exact .inl (nb_t h)
    · exact .inr h
theorem idxN_spec : ∀ (l : List Nat) (x : Nat), x ∈ l → idxN l x < l.length ∧ l[idxN l x]? = some x
 | [], _, h => by cases h
 | y :: l, x, h => by
  simp only [idxN]
  by_cases e : y = x
  · subst e; rw [nb_t rfl]; simp
  · rw [nb_f e]
    have hx : x ∈ l := by rcases List.mem_cons.1 h with h | h; exact absurd h.symm e; exact h
    have := idxN_spec l x hx
    simp only [cond_false, List.length_cons, List.getElem?_cons_succ]
    exact ⟨by omega, this.2⟩
theorem idxN_at {l : List Nat} (hd : l.Nodup) {i : Nat} {x : Nat} (h : l[i]? = some x) : idxN l x = i := by
 have hm := List.mem_of_getElem? h
 have := idxN_spec l x hm
 have hi : i < l.length := by
  rcases Nat.lt_or_ge i l.length with h1 | h1
  · exact h1
  · simp [List.getElem?_eq_none h1] at h
 have e1 : l[idxN l x]'this.1 = x := (List.getElem?_eq_some_iff.1 this.2).2
 have e2 : l[i] = x := (List.getElem?_eq_some_iff.1 h).2
 exact (List.getElem_inj hd).1 (e1.trans e2.symm)
/- The blocks that a call is handed. -/
structure Closed (h : HpF) (acc : HpL) : Prop where
 at_ : ∀ p ∈ acc, h p.1 = some p.2
 nodup : (acc.map (·.1)).Nodup
theorem closeM_spec {h : HpF} {k : HpL → OpM} {r : SV} {ups : List (Nat × Option Chunk)} {nx' : Nat} : ∀ (d : Nat) (todo : List Nat) (acc : HpL) (rs : List Nat), mrun h (closeM k d todo acc) = some (r, ups, nx', rs) → Closed h acc →
  (∀ p ∈ acc, ∀ x ∈ namesC p.2, x ∈ acc.map (·.1) ∨ x ∈ todo) →
  ∃ acc' rs1 rs2, Closed h acc' ∧ (∀ p ∈ acc', ∀ x ∈ namesC p.2, x ∈ acc'.map (·.1)) ∧ (∀ x ∈ todo, x ∈ acc'.map (·.1)) ∧ (∀ x ∈ acc.map (·.1), x ∈ acc'.map (·.1)) ∧
   (∀ x, x ∈ acc'.map (·.1) → x ∈ acc.map (·.1) ∨ x ∈ rs1) ∧ mrun h (k acc') = some (r, ups, nx', rs2) ∧ rs = rs1 ++ rs2
 | 0, _, _, rs, hm, _, _ => by simp [closeM, mrun] at hm
 | d + 1, [], acc, rs, hm, hc, hn => by
  simp only [closeM] at hm
  refine ⟨acc, [], rs, hc, ?_, ?_, fun _ h => h, fun x hx => .inl hx, hm, rfl⟩
  · intro p hp x hx
    rcases hn p hp x hx with h1 | h1
    · exact h1
    · cases h1
  · intro x hx; cases hx
 | d + 1, x :: todo, acc, rs, hm, hc, hn => by
  simp only [closeM] at hm
  cases hmem : memN x (acc.map (·.1)) with
  | true =>
   rw [hmem] at hm
   simp only [cond_true] at hm
   have hxa := (memN_iff _ _).1 hmem
   obtain ⟨acc', rs1, rs2, g1, g2, g3, g0, g4, g5, g6⟩ := closeM_spec d todo acc rs hm hc (by
    intro p hp y hy
    rcases hn p hp y hy with h1 | h1
    · exact .inl h1
    · rcases List.mem_cons.1 h1 with rfl | h1
      · exact .inl hxa
      · exact .inr h1)
   refine ⟨acc', rs1, rs2, g1, g2, ?_, g0, g4, g5, g6⟩
   intro y hy
   rcases List.mem_cons.1 hy with rfl | hy
   · exact g0 _ hxa
   · exact g3 y hy
  | false =>
   rw [hmem] at hm
   simp only [cond_false, mrun] at hm
   have hxa : x ∉ acc.map (·.1) := fun hh => by rw [(memN_iff _ _).2 hh] at hmem; cases hmem
   cases hx : h x with
   | none => simp [hx] at hm
   | some c =>
    simp only [hx] at hm
    cases hr : mrun h (closeM k d (namesC c ++ todo) ((x, c) :: acc)) with
    | none => simp [hr] at hm
    | some q =>
     obtain ⟨r0, ups0, nx0, rs0⟩ := q
     simp only [hr, Option.some.injEq, Prod.mk.injEq] at hm
     obtain ⟨rfl, rfl, rfl, rfl⟩ := hm
     have hc' : Closed h ((x, c) :: acc) := by
      refine ⟨?_, ?_⟩
      · intro p hp
        rcases List.mem_cons.1 hp with rfl | hp
        · exact hx
        · exact hc.at_ p hp
      · simp only [List.map_cons, List.nodup_cons]; exact ⟨hxa, hc.nodup⟩
     obtain ⟨acc', rs1, rs2, g1, g2, g3, g0, g4, g5, g6⟩ := closeM_spec d (namesC c ++ todo) ((x, c) :: acc) rs0 hr hc' (by
       intro p hp y hy
       rcases List.mem_cons.1 hp with rfl | hp
       · exact .inr (List.mem_append.2 (.inl hy))
       · rcases hn p hp y hy with h1 | h1
         · exact .inl (by simp only [List.map_cons, List.mem_cons]; exact .inr h1)
         · rcases List.mem_cons.1 h1 with rfl | h1
           · exact .inl (by simp)
           · exact .inr (List.mem_append.2 (.inr h1)))
     refine ⟨acc', x :: rs1, rs2, g1, g2, ?_, ?_, ?_, g5, by rw [g6]; rfl⟩
     · intro y hy
       rcases List.mem_cons.1 hy with rfl | hy
       · exact g0 _ (by simp)
       · exact g3 y (List.mem_append.2 (.inr hy))
     · intro y hy
       exact g0 y (by simp only [List.map_cons, List.mem_cons]; exact .inr hy)
     · intro y hy
       rcases g4 y hy with h1 | h1
       · simp only [List.map_cons, List.mem_cons] at h1
         rcases h1 with rfl | h1
         · exact .inr (by simp)
         · exact .inl h1
       · exact .inr (List.mem_cons.2 (.inr h1))
theorem locHeap_len (f : Nat → Nat) : ∀ (l : HpL) (i : Nat), (locHeap f l i).length = l.length
 | [], _ => rfl
 | _ :: l, i => by simp [locHeap, locHeap_len f l (i + 1)]
theorem locHeap_at (f : Nat → Nat) : ∀ (l : HpL) (i j : Nat), (locHeap f l i)[j]? = (l[j]?).map fun p => (i + j, renC f p.2)
 | [], _, _ => by simp [locHeap]
 | (x, c) :: l, i, 0 => by simp [locHeap]
 | (x, c) :: l, i, j + 1 => by
  simp only [locHeap, List.getElem?_cons_succ]
  rw [locHeap_at f l (i + 1) j]
  congr 1
  funext p
  simp; omega
theorem locHeap_get (f : Nat → Nat) : ∀ (l : HpL) (i y : Nat), HpL.get (locHeap f l i) (i + y) = (l[y]?).map fun p => renC f p.2
 | [], _, _ => by simp [locHeap, HpL.get]
 | (x, c) :: l, i, 0 => by simp [locHeap, HpL.get]
 | (x, c) :: l, i, y + 1 => by
  have h : ¬ i = i + (y + 1) := by omega
  simp only [locHeap, HpL.get, nb_f h, cond_false, List.getElem?_cons_succ]
  have := locHeap_get f l (i + 1) y
  rw [show i + 1 + y = i + (y + 1) by omega] at this
  exact this
theorem updF_not {x : Nat} : ∀ {l : List (Nat × Option Chunk)} {h : HpF}, x ∉ l.map (·.1) → updF l h x = h x
 | [], _, _ => rfl
 | (y, c) :: l, h, hx => by
  simp only [List.map_cons, List.mem_cons, not_or] at hx
  simp only [updF]
  rw [updF_not hx.2]
  simp [hx.1]
theorem backUps_keys (f : Nat → Nat) : ∀ (l : List (Nat × Option Chunk)), (backUps f l).map (·.1) = l.map (fun p => f p.1)
 | [] => rfl
 | (y, some c) :: l => by simp [backUps, backUps_keys f l]
 | (y, none) :: l => by simp [backUps, backUps_keys f l]
theorem updF_back {f : Nat → Nat} {B : Nat} (hinj : ∀ x y, x < B → y < B → f x = f y → x = y) : ∀ (l : List (Nat × Option Chunk)) (h h' : HpF) (y : Nat), (∀ p ∈ l, p.1 < B) → y ∈ l.map (·.1) →
  updF (backUps f l) h' (f y) = (updF l h y).map (renC f)
 | [], _, _, _, _, hy => by cases hy
 | (x, c) :: l, h, h', y, hB, hy => by
  have hxB := hB (x, c) (by simp)
  have hlB : ∀ p ∈ l, p.1 < B := fun p hp => hB p (by simp [hp])
  have hb : ∀ (h' : HpF), updF (backUps f ((x, c) :: l)) h' = updF (backUps f l) (fun z => if z = f x then c.map (renC f) else h' z) := by
   intro h'; cases c <;> rfl
  rw [hb]
  simp only [updF]
  by_cases hyl : y ∈ l.map (·.1)
  · exact updF_back hinj l _ _ y hlB hyl
  · have hyx : y = x := by
      simp only [List.map_cons, List.mem_cons] at hy
      rcases hy with h1 | h1
      · exact h1
      · exact absurd h1 hyl
    subst hyx
    rw [updF_not hyl]
    have : f y ∉ (backUps f l).map (·.1) := by
     rw [backUps_keys]
     intro hh
     obtain ⟨p, hp, he⟩ := List.mem_map.1 hh
     have := hinj _ _ (hlB p hp) hxB he
     exact hyl (List.mem_map.2 ⟨p, hp, this⟩)
    rw [updF_not this]
    simp
theorem boundN_ge : ∀ (l : List Nat) (n : Nat), n ≤ boundN l n
 | [], _ => Nat.le_refl _
 | y :: l, n => by
  simp only [boundN]
  have := boundN_ge l (bif Nat.blt n (y + 1) then y + 1 else n)
  cases h : Nat.blt n (y + 1) with
  | true =>
   have h1 : n < y + 1 := by rw [Nat.blt_eq] at h; exact h
   rw [h] at this
   simp only [cond_true] at this ⊢
   omega
  | false => rw [h] at this; simpa using this
theorem boundN_mem : ∀ (l : List Nat) (n : Nat), ∀ y ∈ l, y < boundN l n
 | [], _, _, h => by cases h
 | z :: l, n, y, h => by
  simp only [boundN]
  rcases List.mem_cons.1 h with rfl | h
  · have := boundN_ge l (bif Nat.blt n (y + 1) then y + 1 else n)
    cases hb : Nat.blt n (y + 1) with
    | true => rw [hb] at this; simp only [cond_true] at this ⊢; omega
    | false =>
     have h1 : ¬ n < y + 1 := by intro hh; rw [← Nat.blt_eq] at hh; rw [hh] at hb; cases hb
     rw [hb] at this; simp only [cond_false] at this ⊢; omega
  · exact boundN_mem l _ y h
theorem namesU_key : ∀ {l : List (Nat × Option Chunk)} {p}, p ∈ l → p.1 ∈ namesU l
 | (y, some c) :: l, p, h => by
  simp only [namesU, List.mem_cons, List.mem_append]
  rcases List.mem_cons.1 h with rfl | h
  · exact .inl rfl
  · exact .inr (.inr (namesU_key h))
 | (y, none) :: l, p, h => by
  simp only [namesU, List.mem_cons]
  rcases List.mem_cons.1 h with rfl | h
  · exact .inl rfl
  · exact .inr (namesU_key h)
theorem namesU_chunk : ∀ {l : List (Nat × Option Chunk)} {y c}, (y, some c) ∈ l → ∀ x ∈ namesC c, x ∈ namesU l
 | (z, some d) :: l, y, c, h, x, hx => by
  simp only [namesU, List.mem_cons, List.mem_append]
  rcases List.mem_cons.1 h with e | h
  · cases e; exact .inr (.inl hx)
  · exact .inr (.inr (namesU_chunk h x hx))
 | (z, none) :: l, y, c, h, x, hx => by
  simp only [namesU, List.mem_cons]
  rcases List.mem_cons.1 h with e | h
  · cases e
  · exact .inr (namesU_chunk h x hx)
theorem updF_mem : ∀ {l : List (Nat × Option Chunk)} {h : HpF} {y : Nat} {c : Chunk}, updF l h y = some c → (y, some c) ∈ l ∨ (y ∉ l.map (·.1) ∧ h y = some c)
 | [], _, _, _, e => .inr ⟨by simp, e⟩
 | (x, d) :: l, h, y, c, e => by
  simp only [updF] at e
  rcases updF_mem e with h1 | ⟨h1, h2⟩
  · exact .inl (by simp [h1])
  · by_cases hyx : y = x
    · subst hyx
      simp at h2
      subst h2
      exact .inl (by simp)
    · simp [hyx] at h2
      refine .inr ⟨?_, h2⟩
      simp only [List.map_cons, List.mem_cons, not_or]
      exact ⟨hyx, h1⟩
theorem updF_key {l : List (Nat × Option Chunk)} {h h' : HpF} {y : Nat} (hy : y ∈ l.map (·.1)) : updF l h y = updF l h' y := by
 induction l generalizing h h' with
 | nil => cases hy
 | cons p l ih =>
  obtain ⟨x, c⟩ := p
  simp only [updF]
  by_cases hyl : y ∈ l.map (·.1)
  · exact ih hyl
  · rw [updF_not hyl, updF_not hyl]
    simp only [List.map_cons, List.mem_cons] at hy
    rcases hy with rfl | hy
    · simp
    · exact absurd hy hyl
theorem ofCTree_run {h : HpF} {ns : List Nat} {m nx nx' : Nat} {r : SV} {ups : List (Nat × Option Chunk)} {rs : List Nat} : ∀ (t : CTree), mrun h (ofCTree ns m nx t) = some (r, ups, nx', rs) →
  ∃ v u, crun t = some (v, u) ∧ r = renS (backName ns m nx) v ∧ ups = backUps (backName ns m nx) u ∧ nx' = nx + (boundN (namesS v ++ namesU u) m - m)
 | .ret v u, hm => by
  simp only [ofCTree, mrun, Option.some.injEq, Prod.mk.injEq] at hm
  exact ⟨v, u, rfl, hm.1.symm, hm.2.1.symm, hm.2.2.1.symm⟩
 | .ite b t e, hm => by
  simp only [ofCTree, mrun] at hm
  cases b
  · simp only [Bool.false_eq_true, if_false] at hm
    obtain ⟨v, u, h1, h2⟩ := ofCTree_run e hm
    exact ⟨v, u, by simpa [crun] using h1, h2⟩
  · simp only [if_true] at hm
    obtain ⟨v, u, h1, h2⟩ := ofCTree_run t hm
    exact ⟨v, u, by simpa [crun] using h1, h2⟩
 | .fail, hm => by simp [ofCTree, mrun] at hm
structure KOk (P : Program) (κ : Nat → Option CSumm) : Prop where
 fn : ∀ f s, κ f = some s → ∃ fn, P.funcs[f]? = some fn ∧ (fn.name == "runtime.NumGoroutine") = false ∧ fn.body.isNone = false
 ok : ∀ f s, κ f = some s → ValidC P f s
theorem enter_gen {s : CSumm} {h : HpF} {args : List SV} {nx nx' : Nat} {r : SV}
  {ups : List (Nat × Option Chunk)} {rs : List Nat} (hm : mrun h (callS s args nx) = some (r, ups, nx', rs)) :
  ∃ (args' : List SV) (H : HpL) (v : SV) (u : List (Nat × Option Chunk)) (back : Nat → Nat), crun (s args' H) = some (v, u) ∧ Canon H ∧ args'.length = args.length ∧ r = renS back v ∧
   ∀ {ω : Nat → Value} {w : World} {Im : Nat → Prop} {θ : Th} (_ : HRel P ω w Im θ h) {us : List Value} (_ : LRel P ω w Im θ args us) (_ : ∀ x, nx ≤ x → x < nx' → θ x = none ∧ h x = none),
   ∃ θL : Th, LRel P ω w Im θL args' us ∧ HRel P ω w Im θL H.get ∧ (∀ x, H.length ≤ x → θL x = none) ∧
   (∀ y c b N, H.get y = some c → θL y = some (b, N) → ∃ x c0, h x = some c0 ∧ θ x = some (b, N)) ∧
   ∀ (z : Value) (w' : World) (θL' : Th) (Im' : Nat → Prop), Ext (fun x => H.length ≤ x) H.get w Im θL (updF u H.get) w' Im' θL' → VRel P ω w' Im' θL' v z → HRel P ω w' Im' θL' (updF u H.get) →
    ∃ θ', Ext (fun x => nx ≤ x ∧ x < nx') h w Im θ (updF ups h) w' Im' θ' ∧ VRel P ω w' Im' θ' r z ∧ HRel P ω w' Im' θ' (updF ups h) ∧
     (∀ x c b N, updF ups h x = some c → θ' x = some (b, N) → (∃ y c0, updF u H.get y = some c0 ∧ θL' y = some (b, N)) ∨ ∃ c0, h x = some c0 ∧ θ x = some (b, N)) ∧
     ∀ (v' : SV) (z' : Value), (∀ x ∈ namesS v', x ∈ namesS v) → VRel P ω w' Im' θL' v' z' → VRel P ω w' Im' θ' (renS back v') z' := by
 unfold callS at hm
 dsimp only at hm
 obtain ⟨acc, rs1, rs2, hcl, hclosed, hargs, -, -, hm2, -⟩ := closeM_spec _ _ _ _ hm ⟨(fun p hp => by cases hp), List.nodup_nil⟩ (fun p hp => by cases hp)
 generalize hL : acc.reverse = L at hm2
 have hLmem : ∀ p, p ∈ L ↔ p ∈ acc := fun p => by rw [← hL]; simp
 have hat : ∀ p ∈ L, h p.1 = some p.2 := fun p hp => hcl.at_ p ((hLmem p).1 hp)
 have hnd : (L.map (·.1)).Nodup := by rw [← hL, List.map_reverse]; exact (List.reverse_perm _).nodup_iff.2 hcl.nodup
 have hns : ∀ x, x ∈ L.map (·.1) ↔ x ∈ acc.map (·.1) := fun x => by rw [← hL]; simp
 generalize hnsd : L.map (·.1) = ns at hm2 hnd hns
 have hlen : ns.length = L.length := by rw [← hnsd]; simp
 obtain ⟨v, u, hrun, rfl, rfl, rfl⟩ := ofCTree_run _ hm2
 -- the callee's names
 have hnsat : ∀ (i x : Nat), ns[i]? = some x → ∃ c : Chunk, L[i]? = some (x, c) ∧ h x = some c := by
  intro i x hx
  rw [← hnsd, List.getElem?_map, Option.map_eq_some_iff] at hx
  obtain ⟨p, hp, rfl⟩ := hx
  exact ⟨p.2, hp, hat p (List.mem_of_getElem? hp)⟩
 have hchn : ∀ p ∈ L, ∀ x ∈ namesC p.2, x ∈ ns := fun p hp x hx => (hns x).2 (hclosed p ((hLmem p).1 hp) x hx)
 generalize hH : locHeap (idxN ns) L 0 = H at hrun
 have hHget : ∀ y, HpL.get H y = (L[y]?).map fun p => renC (idxN ns) p.2 := by
  intro y
  have := locHeap_get (idxN ns) L 0 y
  rw [Nat.zero_add, hH] at this
  exact this
 have hHlen : H.length = ns.length := by rw [← hH, locHeap_len, hlen]
 have hCanon : Canon H := by
  intro i p hp
  rw [← hH, locHeap_at] at hp
  obtain ⟨q, _, rfl⟩ := Option.map_eq_some_iff.1 hp
  simp
 have hHsome : ∀ (y : Nat) (c : Chunk), HpL.get H y = some c → ∃ (x : Nat) (c0 : Chunk), ns[y]? = some x ∧ h x = some c0 ∧ c = renC (idxN ns) c0 ∧ (∀ z ∈ namesC c0, z ∈ ns) := by
  intro y c hc
  rw [hHget, Option.map_eq_some_iff] at hc
  obtain ⟨p, hp, rfl⟩ := hc
  refine ⟨p.1, p.2, ?_, hat p (List.mem_of_getElem? hp), rfl, hchn p (List.mem_of_getElem? hp)⟩
  rw [← hnsd, List.getElem?_map, hp]; rfl
 refine ⟨_, H, v, u, backName ns ns.length nx, hrun, hCanon, by rw [renL_eq]; simp, rfl, ?_⟩
 intro ω w Im θ hr us hl hfr
 let θL : Th := fun i => match ns[i]? with
  | some x => θ x
  | none => none
 have hθL : ∀ (i x : Nat), ns[i]? = some x → θL i = θ x := fun i x hx => by simp [θL, hx]
 have hθL' : ∀ i : Nat, ns.length ≤ i → θL i = none := fun i hi => by simp [θL, List.getElem?_eq_none hi]
 have hto : ∀ x ∈ ns, ∀ p, θ x = some p → θL (idxN ns x) = some p := by
  intro x hx p hp
  rw [hθL _ x (idxN_spec ns x hx).2, hp]
 have hArgs : LRel P ω w Im θL (renL (idxN ns) args) us := hl.ren _ (fun x hx p hp => hto x ((hns x).2 (hargs x hx)) p hp)
 have hHr : HRel P ω w Im θL H.get := by
  refine ⟨?_, ?_, ?_, hr.im, hr.gl⟩
  · intro y c hc
    obtain ⟨x, c0, hx, hx0, rfl, hn⟩ := hHsome y c hc
    exact (hr.at_ x c0 hx0).ren _ (fun z hz p hp => hto z (hn z hz) p hp) (hθL y x hx)
  · intro y z c c' b N N' hy hz hb hb'
    obtain ⟨x, c0, hx, hx0, -, -⟩ := hHsome y c hy
    obtain ⟨x', c0', hx', hx0', -, -⟩ := hHsome z c' hz
    rw [hθL y x hx] at hb
    rw [hθL z x' hx'] at hb'
    have := hr.inj x x' c0 c0' b N N' hx0 hx0' hb hb'
    subst this
    rw [← idxN_at hnd hx, ← idxN_at hnd hx']
  · intro y c b N hy hb
    obtain ⟨x, c0, hx, hx0, -, -⟩ := hHsome y c hy
    rw [hθL y x hx] at hb
    exact hr.own x c0 b N hx0 hb
 refine ⟨θL, hArgs, hHr, fun x hx => hθL' x (by omega), fun y c b N hy hb => ?_, fun z w' θL' Im' hE hz hH' => ?_⟩
 · obtain ⟨x, c0, hx, hx0, -, -⟩ := hHsome y c hy
   rw [hθL y x hx] at hb
   exact ⟨x, c0, hx0, hb⟩
 rw [hHlen] at hE
 -- back to the caller's names
 generalize hB : boundN (namesS v ++ namesU u) ns.length = B at hfr ⊢
 have hBge : ns.length ≤ B := by rw [← hB]; exact boundN_ge _ _
 have hBv : ∀ x ∈ namesS v, x < B := fun x hx => by rw [← hB]; exact boundN_mem _ _ x (List.mem_append.2 (.inl hx))
 have hBu : ∀ x ∈ namesU u, x < B := fun x hx => by rw [← hB]; exact boundN_mem _ _ x (List.mem_append.2 (.inr hx))
 generalize hback : backName ns ns.length nx = back
 have hbk1 : ∀ (y x : Nat), ns[y]? = some x → back y = x := by
  intro y x hx
  have hlt : y < ns.length := (List.getElem?_eq_some_iff.1 hx).1
  have : Nat.blt y ns.length = true := by rw [Nat.blt_eq]; exact hlt
  rw [← hback]
  simp [backName, this, List.getD, hx]
 have hbk2 : ∀ y, ns.length ≤ y → back y = nx + (y - ns.length) := by
  intro y hy
  have : Nat.blt y ns.length = false := by
   cases hh : Nat.blt y ns.length with
   | false => rfl
   | true => rw [Nat.blt_eq] at hh; omega
  rw [← hback]
  simp [backName, this]
 have hnslt : ∀ y : Nat, y < ns.length → ∃ x, ns[y]? = some x := fun y hy => ⟨ns[y], by simp [hy]⟩
 have hold : ∀ (y x : Nat), ns[y]? = some x → ¬ (nx ≤ x ∧ x < nx + (B - ns.length)) := by
  intro y x hx hh
  obtain ⟨c, -, hc⟩ := hnsat y x hx
  rw [(hfr x hh.1 hh.2).2] at hc
  cases hc
 have hinj : ∀ x y, x < B → y < B → back x = back y → x = y := by
  intro x y hx hy e
  rcases Nat.lt_or_ge x ns.length with h1 | h1
  · obtain ⟨a, ha⟩ := hnslt x h1
    rcases Nat.lt_or_ge y ns.length with h2 | h2
    · obtain ⟨b, hb⟩ := hnslt y h2
      rw [hbk1 x a ha, hbk1 y b hb] at e
      subst e
      rw [← idxN_at hnd ha, ← idxN_at hnd hb]
    · rw [hbk1 x a ha, hbk2 y h2] at e
      exact absurd ⟨by omega, by omega⟩ (hold x a ha)
  · rcases Nat.lt_or_ge y ns.length with h2 | h2
    · obtain ⟨b, hb⟩ := hnslt y h2
      rw [hbk2 x h1, hbk1 y b hb] at e
      exact absurd ⟨by omega, by omega⟩ (hold y b hb)
    · rw [hbk2 x h1, hbk2 y h2] at e
      omega
 let θ' : Th := fun x => if nx ≤ x ∧ x < nx + (B - ns.length) then θL' (x - nx + ns.length) else θ x
 have hθ' : ∀ y, y < B → θ' (back y) = θL' y := by
  intro y hy
  rcases Nat.lt_or_ge y ns.length with h1 | h1
  · obtain ⟨x, hx⟩ := hnslt y h1
    rw [hbk1 y x hx]
    simp only [θ', if_neg (hold y x hx)]
    rw [hE.thOld y (by omega), hθL y x hx]
  · rw [hbk2 y h1]
    have : nx ≤ nx + (y - ns.length) ∧ nx + (y - ns.length) < nx + (B - ns.length) := by omega
    simp only [θ', if_pos this]
    congr 1
    omega
 have hθo : ∀ x, ¬ (nx ≤ x ∧ x < nx + (B - ns.length)) → θ' x = θ x := fun x hx => by simp only [θ', if_neg hx]
 have hup : ∀ x p, θ x = some p → θ' x = some p := by
  intro x p hp
  by_cases hx : nx ≤ x ∧ x < nx + (B - ns.length)
  · rw [(hfr x hx.1 hx.2).1] at hp; cases hp
  · rw [hθo x hx]; exact hp
 have hkeysB : ∀ p ∈ u, p.1 < B := fun p hp => hBu _ (namesU_key hp)
 -- what the caller's heap holds behind the call
 have hnew : ∀ x c, updF (backUps back u) h x = some c →
   (∃ y c0, y < B ∧ back y = x ∧ updF u (HpL.get H) y = some c0 ∧ c = renC back c0 ∧ (∀ z ∈ namesC c0, z < B)) ∨ (x ∉ ns ∧ h x = some c ∧ ¬ (nx ≤ x ∧ x < nx + (B - ns.length))) := by
  intro x c hx
  by_cases hkey : x ∈ (backUps back u).map (·.1)
  · rw [backUps_keys] at hkey
    obtain ⟨p, hp, rfl⟩ := List.mem_map.1 hkey
    have hyk : p.1 ∈ u.map (·.1) := List.mem_map.2 ⟨p, hp, rfl⟩
    rw [updF_back hinj u (HpL.get H) h p.1 hkeysB hyk, Option.map_eq_some_iff] at hx
    obtain ⟨c0, hc0, rfl⟩ := hx
    refine .inl ⟨p.1, c0, hkeysB p hp, rfl, hc0, rfl, ?_⟩
    rcases updF_mem hc0 with h1 | ⟨h1, _⟩
    · exact fun z hz => hBu z (namesU_chunk h1 z hz)
    · exact absurd hyk h1
  · rw [updF_not hkey] at hx
    by_cases hxn : x ∈ ns
    · obtain ⟨hi1, hi2⟩ := idxN_spec ns x hxn
      obtain ⟨c1, hL1, hc1⟩ := hnsat _ x hi2
      rw [hx] at hc1
      simp only [Option.some.injEq] at hc1
      subst hc1
      have hny : idxN ns x ∉ u.map (·.1) := by
       intro hh
       obtain ⟨p, hp, he⟩ := List.mem_map.1 hh
       apply hkey
       rw [backUps_keys]
       exact List.mem_map.2 ⟨p, hp, by simp only [he]; exact hbk1 _ x hi2⟩
      have hcn := hchn (x, c) (List.mem_of_getElem? hL1)
      refine .inl ⟨idxN ns x, renC (idxN ns) c, by omega, hbk1 _ x hi2, ?_, ?_, ?_⟩
      · rw [updF_not hny, hHget, hL1]; rfl
      · rw [renC_id]
        intro z hz
        exact hbk1 _ z (idxN_spec ns z (hcn z hz)).2
      · intro z hz
        cases c with
        | mpb kd kvs => cases hz
        | seq e es => cases hz
        | sqo e es => cases hz
        | ext c => cases hz
        | sqp e es =>
         obtain ⟨y, hy, rfl⟩ := namesL_ren (idxN ns) z es hz
         have := (idxN_spec ns y (hcn y hy)).1
         omega
        | mpc ks vs =>
         simp only [renC, namesC, List.mem_append] at hz
         rcases hz with hz | hz
         · obtain ⟨y, hy, rfl⟩ := namesL_ren (idxN ns) z ks hz
           have := (idxN_spec ns y (hcn y (List.mem_append.2 (.inl hy)))).1
           omega
         · obtain ⟨y, hy, rfl⟩ := namesL_ren (idxN ns) z vs hz
           have := (idxN_spec ns y (hcn y (List.mem_append.2 (.inr hy)))).1
           omega
        | mpn bs cl ks vs =>
         simp only [renC, namesC, List.mem_append] at hz
         rcases hz with hz | hz
         · obtain ⟨y, hy, rfl⟩ := namesL_ren (idxN ns) z ks hz
           have := (idxN_spec ns y (hcn y (List.mem_append.2 (.inl hy)))).1
           omega
         · obtain ⟨y, hy, rfl⟩ := namesL_ren (idxN ns) z vs hz
           have := (idxN_spec ns y (hcn y (List.mem_append.2 (.inr hy)))).1
           omega
        | mit zz since seen last =>
         simp only [renC, namesC, List.mem_singleton] at hz
         have := (idxN_spec ns zz (hcn zz (by simp [namesC]))).1
         omega
        | loopr st vs ps asg bdy =>
         simp only [renC, namesC] at hz
         have := namesL_ren (idxN ns) z vs hz
         obtain ⟨y, hy, rfl⟩ := this
         have := (idxN_spec ns y (hcn y hy)).1
         omega
        | cells T vs =>
         simp only [renC, namesC] at hz
         have := namesL_ren (idxN ns) z vs hz
         obtain ⟨y, hy, rfl⟩ := this
         have := (idxN_spec ns y (hcn y hy)).1
         omega
    · refine .inr ⟨hxn, hx, fun hh => ?_⟩
      rw [(hfr x hh.1 hh.2).2] at hx
      cases hx
 refine ⟨θ', ?_, ?_, ?_, ?_, ?_⟩
 · refine ⟨hθo, hup, hE.imUp, hE.size, ?_, ?_, ?_, hE.os, hE.output, hE.tape, hE.drawn⟩
   · intro b hb hno
     refine hE.keep b hb (fun y c N hy => ?_)
     obtain ⟨x, c0, hx, hx0, -, -⟩ := hHsome y c hy
     rw [hθL y x hx]
     exact hno x c0 N hx0
   · intro b hb
     rcases hE.imNew b hb with h1 | ⟨y, c, N, hy, hθy⟩ | h1
     · exact .inl h1
     · obtain ⟨x, c0, hx, hx0, -, -⟩ := hHsome y c hy
       rw [hθL y x hx] at hθy
       exact .inr (.inl ⟨x, c0, N, hx0, hθy⟩)
     · exact .inr (.inr h1)
   · intro x c b N hx hb
     rcases hnew x c hx with ⟨y, c0, hyB, rfl, hy0, -, -⟩ | ⟨-, hx0, hxo⟩
     · rw [hθ' y hyB] at hb
       rcases hE.ownNew y c0 b N hy0 hb with ⟨y', c', N', hy', hθy'⟩ | h1
       · obtain ⟨x', c0', hx', hx0', -, -⟩ := hHsome y' c' hy'
         rw [hθL y' x' hx'] at hθy'
         exact .inl ⟨x', c0', N', hx0', hθy'⟩
       · exact .inr h1
     · rw [hθo x hxo] at hb
       exact .inl ⟨x, c, N, hx0, hb⟩
 · exact hz.ren back (fun x hx p hp => by rw [hθ' x (hBv x hx)]; exact hp)
 · have hkeepO : ∀ x c, x ∉ ns → h x = some c → ∀ b N, θ x = some (b, N) → w'.heap[b]? = w.heap[b]? := by
     intro x c hxn hx b N hb
     refine hE.keep b (hr.own x c b N hx hb).2 (fun y c' N' hy hθy => ?_)
     obtain ⟨x', c0', hx', hx0', -, -⟩ := hHsome y c' hy
     rw [hθL y x' hx'] at hθy
     have := hr.inj x x' c c0' b N N' hx hx0' hb hθy
     subst this
     exact hxn (List.mem_of_getElem? hx')
   have hI : ∀ b, Im b → Im' b ∧ w'.heap[b]? = w.heap[b]? := fun b hb => ⟨hE.imUp b hb, hE.keep b (hr.im b hb) (fun y c N hy hθy => by
    obtain ⟨x, c0, hx, hx0, -, -⟩ := hHsome y c hy
    rw [hθL y x hx] at hθy
    exact (hr.own x c0 b N hx0 hθy).1 hb)⟩
   have hownL : ∀ y c0 b N, updF u (HpL.get H) y = some c0 → θL' y = some (b, N) → (∃ x c1 N1, x ∈ ns ∧ h x = some c1 ∧ θ x = some (b, N1)) ∨ w.heap.size ≤ b := by
    intro y c0 b N hy hb
    rcases hE.ownNew y c0 b N hy hb with ⟨y', c', N', hy', hθy'⟩ | h1
    · obtain ⟨x', c0', hx', hx0', -, -⟩ := hHsome y' c' hy'
      rw [hθL y' x' hx'] at hθy'
      exact .inl ⟨x', c0', N', List.mem_of_getElem? hx', hx0', hθy'⟩
    · exact .inr h1
   have hcross : ∀ y c0 b N x c N', updF u (HpL.get H) y = some c0 → θL' y = some (b, N) → x ∉ ns → h x = some c → θ x = some (b, N') → False := by
    intro y c0 b N x c N' hy hb hxn hx hbx
    rcases hownL y c0 b N hy hb with ⟨x1, c1, N1, hx1, hx1h, hb1⟩ | h1
    · have := hr.inj x x1 c c1 b N' N1 hx hx1h hbx hb1
      subst this
      exact hxn hx1
    · have := (hr.own x c b N' hx hbx).2
      omega
   refine ⟨?_, ?_, ?_, hH'.im, hH'.gl⟩
   · intro x c hx
     rcases hnew x c hx with ⟨y, c0, hyB, rfl, hy0, rfl, hzB⟩ | ⟨hxn, hx0, hxo⟩
     · exact (hH'.at_ y c0 hy0).ren back (fun z hz p hp => by rw [hθ' z (hzB z hz)]; exact hp) (hθ' y hyB)
     · exact (hr.at_ x c hx0).mono hI hup (hθo x hxo) (hkeepO x c hxn hx0)
   · intro x x' c c' b N N' hx hx' hb hb'
     rcases hnew x c hx with ⟨y, c0, hyB, rfl, hy0, -, -⟩ | ⟨hxn, hx0, hxo⟩
     · rw [hθ' y hyB] at hb
       rcases hnew x' c' hx' with ⟨y', c0', hyB', rfl, hy0', -, -⟩ | ⟨hxn', hx0', hxo'⟩
       · rw [hθ' y' hyB'] at hb'
         rw [hH'.inj y y' c0 c0' b N N' hy0 hy0' hb hb']
       · rw [hθo x' hxo'] at hb'
         exact (hcross y c0 b N x' c' N' hy0 hb hxn' hx0' hb').elim
     · rw [hθo x hxo] at hb
       rcases hnew x' c' hx' with ⟨y', c0', hyB', rfl, hy0', -, -⟩ | ⟨hxn', hx0', hxo'⟩
       · rw [hθ' y' hyB'] at hb'
         exact (hcross y' c0' b N' x c N hy0' hb' hxn hx0 hb).elim
       · rw [hθo x' hxo'] at hb'
         exact hr.inj x x' c c' b N N' hx0 hx0' hb hb'
   · intro x c b N hx hb
     rcases hnew x c hx with ⟨y, c0, hyB, rfl, hy0, -, -⟩ | ⟨hxn, hx0, hxo⟩
     · rw [hθ' y hyB] at hb
       exact hH'.own y c0 b N hy0 hb
     · rw [hθo x hxo] at hb
       have ho := hr.own x c b N hx0 hb
       refine ⟨fun hi => ?_, Nat.lt_of_lt_of_le ho.2 hE.size⟩
       rcases hE.imNew b hi with h1 | ⟨y, c1, N1, hy, hθy⟩ | h1
       · exact ho.1 h1
       · obtain ⟨x', c0', hx', hx0', -, -⟩ := hHsome y c1 hy
         rw [hθL y x' hx'] at hθy
         have := hr.inj x x' c c0' b N N1 hx0 hx0' hb hθy
         subst this
         exact hxn (List.mem_of_getElem? hx')
       · omega
 · intro x c b N hx hb
   rcases hnew x c hx with ⟨y, c0, hyB, rfl, hy0, -, -⟩ | ⟨-, hx0, hxo⟩
   · rw [hθ' y hyB] at hb
     exact .inl ⟨y, c0, hy0, hb⟩
   · rw [hθo x hxo] at hb
     exact .inr ⟨c, hx0, hb⟩
 · intro v' z' hn hz'
   exact hz'.ren back (fun x hx p hp => by rw [hθ' x (hBv x (hn x hx))]; exact hp)
theorem enter_good {κ : Nat → Option CSumm} (hκ : KOk P κ) {w : World} {Im : Nat → Prop} {θ : Th} {h : HpF} (hr : HRel P ω w Im θ h) {g : FuncId} {args : List SV} {us : List Value} (hl : LRel P ω w Im θ args us) {nx nx' : Nat} {r : SV}
  {ups : List (Nat × Option Chunk)} {rs : List Nat} (hm : mrun h (callM κ g args nx) = some (r, ups, nx', rs)) (hfr : ∀ x, nx ≤ x → x < nx' → θ x = none ∧ h x = none) :
  Calls P g us.toArray w fun e w' => ∃ u Im' θ', e = .returned u ∧ Ext (fun x => nx ≤ x ∧ x < nx') h w Im θ (updF ups h) w' Im' θ' ∧ VRel P ω w' Im' θ' r u ∧ HRel P ω w' Im' θ' (updF ups h) := by
 unfold callM at hm
 cases hk : κ g with
 | none => simp [hk, mrun] at hm
 | some s =>
  simp only [hk] at hm
  obtain ⟨args', H, v, u, back, h1, h2, -, -, hsem⟩ := enter_gen (P := P) hm
  obtain ⟨θL, h3, h4, h5, -, h6⟩ := hsem hr hl hfr
  refine (hκ.ok g s hk _ _ v u h1 h2 ω θL Im w us h3 h4 h5).mono ?_
  rintro e w' ⟨z, θL', Im', rfl, hE, hz, hH'⟩
  obtain ⟨θ', g1, g2, g3, -, -⟩ := h6 z w' θL' Im' hE hz hH'
  exact ⟨z, Im', θ', rfl, g1, g2, g3⟩
theorem findMeth_find (name : String) : ∀ l : List Method, findMeth name l = l.find? (·.name == name)
 | [] => rfl
 | m :: l => by
  simp only [findMeth, List.find?_cons]
  cases h : m.name == name
  · simpa using findMeth_find name l
  · rfl
theorem run_methodS {t : TypeId} {name : String} {g : Nat} (h : methodS P t name = some g) (k : Nat) (u : Value) (w : World) : (method (k + 1) t u name).run P w = .ok (g, u) w := by
 unfold methodS at h
 cases hi : P.info? t with
 | none => simp [hi] at h
 | some i =>
  simp only [hi] at h
  rw [findMeth_find] at h
  split at h
  case h_2 => cases h
  rename_i m hm
  split at h
  case h_2 => cases h
  rename_i f p hp hf
  have hm' : i.methods.find? (·.name == name) = some m := by rw [← Array.find?_toList]; exact hm
  have hpe : m.path = #[] := by apply Array.ext'; simpa using hp
  have hti : (typeInfo t).run P w = .ok i w := by simp [typeInfo, hi]
  split at h
  · rename_i e hu
    cases p with
    | false => cases h
    | true =>
     simp only [cond_true, Option.some.injEq] at h
     subst h
     simp [method, hti, hm', hpe, hf, follow, receiverAt, run_underlying hu, Place.get]
  · rename_i d hni hu
    cases p with
    | true => cases h
    | false =>
     simp only [cond_false, Option.some.injEq] at h
     subst h
     cases d <;> first | exact (hni _ rfl).elim | simp [method, hti, hm', hpe, hf, follow, receiverAt, run_underlying hu, Place.get]
  · cases h
theorem run_invoke {t : TypeId} {name : String} {g : Nat} (h : methodS P t name = some g) {fn : Func} (hfn : P.funcs[g]? = some fn) (hn1 : (fn.name == "runtime.NumGoroutine") = false) (hn2 : fn.body.isNone = false) (u : Value) (args : Array Value) (w : World) :
  (invoke (.fn (.method name) #[]) (#[.iface t u] ++ args)).run P w = .ok (.enter g (#[u] ++ args)) w := by
 have h0 : (#[Value.iface t u] ++ args)[0]? = some (.iface t u) := by simp [Array.getElem?_append]
 have hex : (#[Value.iface t u] ++ args).extract 1 (#[Value.iface t u] ++ args).size = args := by
  apply Array.ext'
  simp [List.take_of_length_le]
 have hmr : (method (P.types.size + 100) t u name).run P w = .ok (g, u) w := run_methodS h (P.types.size + 99) u w
 have hn1' : ¬ fn.name = "runtime.NumGoroutine" := by simpa using hn1
 have hn2' : ¬ fn.body = none := by intro hh; simp [hh] at hn2
 simp only [invoke, h0, hex]
 simp [callMethod, Made.depth, hmr, callFunc, hfn, hn1', hn2']
theorem op_good0 {κ : Nat → Option CSumm} (hκ : KOk P κ) {o : Oper} {a : Act} {w : World} {Im : Nat → Prop} {θ : Th} {h : HpF} {ev : Operand → SV} {nx nx' : Nat} {r : SV} {ups : List (Nat × Option Chunk)} {rs : List Nat}
  (hr : HRel P ω w Im θ h) (hev : ∀ x ∈ o.op.operands, VRel P ω w Im θ (ev x) (a.eval x)) (hfr : ∀ x, nx ≤ x → x < nx' → θ x = none ∧ h x = none)
  (hm : mrun h (opM0 P κ o ev nx) = some (r, ups, nx', rs)) : Good P ω o a w Im θ h r ups nx nx' := by
 by_cases hc : ∃ c, o.op = .call c
 · obtain ⟨c, hc⟩ := hc
   obtain ⟨dst, op, type, pos, after, guard⟩ := o
   simp only at hc
   subst hc
   obtain ⟨callee, cargs, argTypes⟩ := c
   simp only [opM0] at hm
   simp only [Op.operands, Call.operands] at hev
   cases callee with
   | invoke r m =>
    simp only [] at hm hev
    have hf := hev r (by simp)
    split at hm
    case h_2 => simp [mrun] at hm
    rename_i t v he
    split at hm
    case h_2 => simp [mrun] at hm
    rename_i g hmeth
    rw [he] at hf
    generalize hu : a.eval r = u at hf
    cases hf with
    | iface hv =>
     rename_i u'
     have hl : LRel P ω w Im θ (v :: cargs.toList.map ev) (u' :: (cargs.map a.eval).toList) := by
      refine ⟨by simp, fun i x y hx hy => ?_⟩
      cases i with
      | zero => cases hx; cases hy; exact hv
      | succ i =>
       simp only [List.getElem?_cons_succ, List.getElem?_map, Array.getElem?_toList, Option.map_eq_some_iff] at hx
       obtain ⟨c, hc, rfl⟩ := hx
       simp only [List.getElem?_cons_succ, Array.toList_map, List.getElem?_map, Array.getElem?_toList, hc, Option.map_some, Option.some.injEq] at hy
       subst hy
       exact hev c (by simp; exact .inr (Array.mem_of_getElem? hc))
     have hcalls := enter_good hκ hr hl hm hfr
     intro ρ K Q hK
     have hs : ∃ s, κ g = some s := by
      unfold callM at hm
      cases hk : κ g with
      | none => simp [hk, mrun] at hm
      | some s => exact ⟨s, rfl⟩
     obtain ⟨s, hs⟩ := hs
     obtain ⟨fn, hfn, hn1, hn2⟩ := hκ.fn g s hs
     have hrun : (execOp a.eval { dst := dst, op := .call { callee := .invoke r m, args := cargs, argTypes := argTypes }, type := type, pos := pos, after := after, guard := guard }).run P w = .ok (.enter g (u' :: (cargs.map a.eval).toList).toArray) w := by
      have e : (u' :: (cargs.map a.eval).toList).toArray = #[u'] ++ cargs.map a.eval := by
       apply Array.ext'
       simp
      rw [e]
      have hn1' : ¬ fn.name = "runtime.NumGoroutine" := by simpa using hn1
      have hn2' : ¬ fn.body = none := by intro hh; simp [hh] at hn2
      have hi := run_invoke hmeth hfn hn1 hn2 u' (cargs.map a.eval) w
      simp only [execOp, resolve, hu, pure_bind]
      exact hi
     refine ⟨fun f _ => FR_fn ρ f, ?_⟩
     rw [Oper.semAt_eq _ _ _ (fun c hc => by cases hc), hrun, Oper.uponIn_enter]
     refine ⟨FR_depth1 ρ, callsIn_FR (hcalls.mono ?_)⟩
     rintro e w' ⟨u, Im', θ', rfl, hE, hv, hH⟩
     exact hK u w' Im' θ' hE hv hH
   | builtin b =>
    simp only [] at hm
    have hargs : LRel P ω w Im θ (cargs.toList.map ev) (cargs.map a.eval).toList := by
     refine ⟨by simp, fun i v u hv hu => ?_⟩
     simp only [List.getElem?_map, Array.getElem?_toList, Option.map_eq_some_iff] at hv
     obtain ⟨c, hc, rfl⟩ := hv
     simp only [Array.toList_map, List.getElem?_map, Array.getElem?_toList, hc, Option.map_some, Option.some.injEq] at hu
     subst hu
     exact hev c (by simp; exact Array.mem_of_getElem? hc)
    unfold builtinS at hm
    split at hm
    · rename_i t ts x xs htys hxs
      have h1 : argTypes[0]? = some t := by
       have := congrArg (·[0]?) htys
       simpa using this
      rw [hxs] at hargs
      have hlen := hargs.len
      cases hus : (cargs.map a.eval).toList with
      | nil => rw [hus] at hlen; simp at hlen
      | cons u us =>
       rw [hus] at hargs
       have h2 : (cargs.map a.eval)[0]? = some u := by
        have := congrArg (·[0]?) hus
        simpa using this
       obtain ⟨v, hv1, hv2, rfl, rfl⟩ := run_len hm (tys := argTypes) (ty := type) h1 h2 (hargs.at_ 0 x u rfl rfl)
       refine good_value hr ?_ hv2
       simp [execOp, resolve, invoke, builtin, hv1]
    · simp [mrun] at hm
   | value f =>
    simp only [] at hm hev
    have hf := hev f (by simp)
    split at hm
    · rename_i g first caps he
      rw [he] at hf
      generalize hu : a.eval f = u at hf
      cases hf with
      | fn h1 h2 h3 h4 =>
       rename_i us vs
       have hl : LRel P ω w Im θ (first ++ (cargs.toList.map ev ++ caps)) (us.toList ++ ((cargs.map a.eval).toList ++ vs.toList)) := by
        refine LRel.append ⟨by simpa using h1, fun i v u hv hu => h3 i v u hv (by simpa using hu)⟩ (LRel.append ⟨by simp, fun i v u hv hu => ?_⟩ ⟨by simpa using h2, fun i v u hv hu => h4 i v u hv (by simpa using hu)⟩)
        simp only [List.getElem?_map, Array.getElem?_toList, Option.map_eq_some_iff] at hv
        obtain ⟨c, hc, rfl⟩ := hv
        simp only [Array.toList_map, List.getElem?_map, Array.getElem?_toList, hc, Option.map_some, Option.some.injEq] at hu
        subst hu
        exact hev c (by simp; exact .inr (Array.mem_of_getElem? hc))
       have hcalls := enter_good hκ hr hl hm hfr
       intro ρ K Q hK
       have hs : ∃ s, κ g = some s := by
        unfold callM at hm
        cases hk : κ g with
        | none => simp [hk, mrun] at hm
        | some s => exact ⟨s, rfl⟩
       obtain ⟨s, hs⟩ := hs
       obtain ⟨fn, hfn, hn1, hn2⟩ := hκ.fn g s hs
       have hrun : (execOp a.eval { dst := dst, op := .call { callee := .value f, args := cargs, argTypes := argTypes }, type := type, pos := pos, after := after, guard := guard }).run P w = .ok (.enter g (us.toList ++ ((cargs.map a.eval).toList ++ vs.toList)).toArray) w := by
        have e : (us.toList ++ ((cargs.map a.eval).toList ++ vs.toList)).toArray = us ++ cargs.map a.eval ++ vs := by
         apply Array.ext'
         simp
        rw [e]
        have hn1' : ¬ fn.name = "runtime.NumGoroutine" := by simpa using hn1
        have hn2' : ¬ fn.body = none := by intro hh; simp [hh] at hn2
        simp [execOp, resolve, hu, Deferred.ofValue, invoke, callFunc, hfn, hn1', hn2']
       refine ⟨fun f _ => FR_fn ρ f, ?_⟩
       rw [Oper.semAt_eq _ _ _ (fun c hc => by cases hc), hrun, Oper.uponIn_enter]
       refine ⟨FR_depth1 ρ, callsIn_FR (hcalls.mono ?_)⟩
       rintro e w' ⟨u, Im', θ', rfl, hE, hv, hH⟩
       exact hK u w' Im' θ' hE hv hH
    · simp [mrun] at hm
 · exact op_plain (fun c e => hc ⟨c, e⟩) hr hev (fun x h1 h2 => (hfr x h1 h2).1) hm
theorem opM_cases {κ : Nat → Option CSumm} {o : Oper} {ev : Operand → SV} {nx : Nat} : opM P κ o ev nx = chkM nx (opX P o.op (o.op.operands.toList.map ev) nx) [] ∨ opM P κ o ev nx = opM0 P κ o ev nx := by
 unfold opM
 split
 · exact .inl rfl
 · exact .inr rfl
theorem op_good {κ : Nat → Option CSumm} (hκ : KOk P κ) {o : Oper} {a : Act} {w : World} {Im : Nat → Prop} {θ : Th} {h : HpF} {ev : Operand → SV} {nx nx' : Nat} {r : SV} {ups : List (Nat × Option Chunk)} {rs : List Nat}
  (hr : HRel P ω w Im θ h) (hev : ∀ x ∈ o.op.operands, VRel P ω w Im θ (ev x) (a.eval x)) (hfr : ∀ x, nx ≤ x → x < nx' → θ x = none ∧ h x = none)
  (hm : mrun h (opM P κ o ev nx) = some (r, ups, nx', rs)) : Good P ω o a w Im θ h r ups nx nx' := by
 rcases opM_cases (P := P) (κ := κ) (o := o) (ev := ev) (nx := nx) with hc | hc <;> rw [hc] at hm
 · exact opX_good hr hev hfr (chkM_run hm).1
 · exact op_good0 hκ hr hev hfr hm
end Go.Am
