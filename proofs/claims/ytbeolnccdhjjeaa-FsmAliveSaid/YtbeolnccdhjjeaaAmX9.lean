/- The abstract machine: 'append', and all further operations. -/
import Derived.Test.YtbeolnccdhjjeaaAmX87
namespace Go.Am
variable {P : Program} {ω : Nat → Value}

section
variable {w : World} {Im : Nat → Prop} {θ : Th} {h : HpF}

theorem growS_inv {e : TypeId} {es news : List SV} {dead ys : List Nat} {nx nx' : Nat} {r : SV} {ups : List (Nat × Option Chunk)} {rs : List Nat} (hm : mrun h (growS P e es news dead ys nx) = some (r, ups, nx', rs)) :
    ∃ i z, P.info? e = some i ∧ i.zero = some z ∧ z.cells.size = P.cellsOf e ∧ apartN dead ys = true ∧ es.length + news.length ≤ 9223372036854775807 ∧ (es.length + news.length) * i.bytes ≤ 140737488355328 ∧
      r = .qs nx (P.cellsOf e) 0 (es.length + news.length) ∧ ups = drops (dead ++ ys) ++ [(nx, some (.seq e (es ++ news)))] ∧ nx' = nx + 1 := by
  unfold growS at hm
  split at hm
  case h_2 => simp [mrun] at hm
  rename_i i hi
  split at hm
  case h_2 => simp [mrun] at hm
  rename_i z hz
  have hb0 := bif_fail hm; clear hm; obtain ⟨hk, hm⟩ := hb0
  simp only [Bool.and_eq_true] at hk
  have hb0 := mrun_ite_fail' hm; clear hm; obtain ⟨hc, hm⟩ := hb0
  simp only [Bool.and_eq_true, decide_eq_true_eq] at hc
  obtain ⟨rfl, rfl, rfl, rfl⟩ := mrun_done hm
  exact ⟨i, z, hi, hz, Nat.eq_of_beq_eq_true hk.1.1, hk.2, hc.1, hc.2, rfl, rfl, rfl⟩

theorem run_appendX {t t' : TypeId} {s x : SV} {nx nx' : Nat} {r : SV} {ups : List (Nat × Option Chunk)} {rs : List Nat} (hr : HRel P ω w Im θ h) (hfr : ∀ x, nx ≤ x → x < nx' → θ x = none ∧ h x = none) (hm : mrun h (appendX P t t' s x nx) = some (r, ups, nx', rs))
    {tys : Array TypeId} {ty : TypeId} {args : Array Value} {us ux : Value} (h0 : tys[0]? = some t) (h1 : tys[1]? = some t') (a0 : args[0]? = some us) (a1 : args[1]? = some ux) (hs : VRel P ω w Im θ s us) (hx : VRel P ω w Im θ x ux) :
    ∃ v w' θ' Im', (Builtin.append_ tys ty args).run P w = .ok v w' ∧ Ext (fun x => nx ≤ x ∧ x < nx') h w Im θ (updF ups h) w' Im' θ' ∧ VRel P ω w' Im' θ' r v ∧ HRel P ω w' Im' θ' (updF ups h) := by
  unfold appendX at hm
  split at hm
  case h_2 => simp [mrun] at hm
  rename_i e hu
  have hb0 := bif_fail hm; clear hm; obtain ⟨hk, hm⟩ := hb0
  simp only [Bool.and_eq_true] at hk
  have fin : ∀ (es : List SV) (uf : Nat → Value) (dead zs : List Nat) (rs : List Nat), Elems P w (frozenBy Im θ h zs) e es uf → Dst P w θ h e dead es.length uf us →
      mrun h (elemsM P e (fun news ys => growS P e es news dead (zs ++ ys) nx) x) = some (r, ups, nx', rs) →
      ∃ v w' θ' Im', (Builtin.append_ tys ty args).run P w = .ok v w' ∧ Ext (fun x => nx ≤ x ∧ x < nx') h w Im θ (updF ups h) w' Im' θ' ∧ VRel P ω w' Im' θ' r v ∧ HRel P ω w' Im' θ' (updF ups h) := by
    intro es uf dead zs rs hes hd hm
    obtain ⟨news, ys, rs', uf2, g1, g2, g3⟩ := elemsM_run hr hk.2 hx hm
    obtain ⟨i, z, hi, hz, hzs, hap, h63, hby, rfl, rfl, rfl⟩ := growS_inv g1
    obtain ⟨f1, f2⟩ := hfr nx (Nat.le_refl _) (Nat.lt_succ_self _)
    obtain ⟨v', w', θ', q1, q2, q3, q4⟩ := grow_run (ty := ty) hr f1 f2 hap (hes.mono (frozen_app w).1) (g2.mono (frozen_app w).2) hk.2 h0 h1 hu hk.1 hi hz hzs a0 a1 hd g3 h63 hby
    exact ⟨v', w', θ', _, q1, q2, q4, q3⟩
  split at hm
  · cases hs
    exact fin [] (fun _ => undef) [] [] rs Elems.nil (.none rfl) (by simpa using hm)
  · cases hs
    exact fin [] (fun _ => undef) [] [] rs Elems.nil (.none rfl) (by simpa using hm)
  · rename_i y sz l n
    have hb0 := get_run hm; clear hm; obtain ⟨c, rs', hy, hm, rfl⟩ := hb0
    cases c with
    | seq e' es =>
      have hb0 := bif_fail hm; clear hm; obtain ⟨hk2, hm⟩ := hb0
      simp only [Bool.and_eq_true] at hk2
      have : e = e' := Nat.eq_of_beq_eq_true hk2.1.1
      subst this
      have : sz = P.cellsOf e := Nat.eq_of_beq_eq_true hk2.1.2
      subst this
      have : l = 0 := Nat.eq_of_beq_eq_true hk2.2
      subst this
      have hb0 := mrun_ite_fail' hm; clear hm; obtain ⟨hc, hm⟩ := hb0
      have hn : n = es.length := of_decide_eq_true hc
      rcases hr.at_ y _ hy with ⟨rfl, h3⟩ | ⟨b, N, cs, T, fr, uf, h3, h4, h5, h6, h7, h8, h9⟩
      · cases hs with
        | qs hθ _ _ => rw [h3] at hθ; cases hθ
        | qsnil _ => exact fin [] (fun _ => undef) [y] [] rs' Elems.nil (.none rfl) (by simpa using hm)
      · obtain ⟨h6, rfl⟩ := h6
        have hel : Elems P w (frozenBy Im θ h []) _ es uf := ⟨h8, fun i v hv => ⟨(h9 i v hv).1.mono (frozenBy_up w) (fun _ _ h => h), (h9 i v hv).2.1⟩⟩
        cases hs with
        | qsnil hn0 => exact fin es uf [y] [] rs' hel (.none (by omega)) (by simpa using hm)
        | qs hθ k1 k2 =>
          rw [h3] at hθ
          simp only [Option.some.injEq, Prod.mk.injEq] at hθ
          obtain ⟨rfl, rfl⟩ := hθ
          rename_i cap
          refine fin es uf [y] [] rs' hel ?_ (by simpa using hm)
          rw [Nat.zero_mul, hn]
          refine Dst.row (y := y) (by simp) hy h3 h4 h5 (by omega) (by rw [h6]; simpa using k1) (fun i hi d c hd => ?_)
          exact (h9 i es[i] (by simp [hi])).2.2 d c hd
    | cells => simp [mrun] at hm
    | loopr => simp [mrun] at hm
    | mpc => simp [mrun] at hm
  · rename_i y sz off n
    have hb0 := get_run hm; clear hm; obtain ⟨c, rs', hy, hm, rfl⟩ := hb0
    cases c with
    | cells T cs =>
      have hb0 := bif_fail hm; clear hm; obtain ⟨hk2, hm⟩ := hb0
      simp only [Bool.and_eq_true] at hk2
      have : sz = P.cellsOf e := Nat.eq_of_beq_eq_true hk2.1.1.1
      subst this
      have : off = 0 := Nat.eq_of_beq_eq_true hk2.1.2
      subst this
      have : T = e := Nat.eq_of_beq_eq_true hk2.1.1.2
      subst this
      split at hm
      case h_2 => simp [mrun] at hm
      rename_i vs hvs
      obtain ⟨b, ca, fr, g1, g2, g3, g4⟩ := hr.at_ y _ hy
      obtain ⟨es, zs, rs1, uf, q1, q2, q3, q4⟩ := parts_elems hr hk.2 g4 hvs hm
      subst q2
      have hcal : ca.size = cs.length := by have := g4.len; simp at this; omega
      refine fin es uf [y] zs rs1 q3 ?_ q1
      generalize hel : es.length = n at *
      cases hs with
      | slnil => exact .none rfl
      | sl hθ k1 k2 =>
        rw [g1] at hθ
        simp only [Option.some.injEq, Prod.mk.injEq] at hθ
        obtain ⟨rfl, rfl⟩ := hθ
        exact Dst.row (y := y) (by simp) hy g1 g2 g3 k2 (by rw [hcal]; simpa using k1) (fun i hi d c hd => by
          have := q4 i hi d c hd
          rw [Nat.zero_add] at this
          simpa using this)
    | seq => simp [mrun] at hm
    | loopr => simp [mrun] at hm
    | mpc => simp [mrun] at hm
  · simp [mrun] at hm

theorem hd2 {α : Type} {l : List α} {a b : α} {r : List α} (h : l = a :: b :: r) : l[0]? = some a ∧ l[1]? = some b := by subst h; exact ⟨rfl, rfl⟩

theorem builtinX_good {b : Builtin} {c : Call} {o : Oper} {a : Act} (ho : o.op = .call c) (hb : c.callee = .builtin b) {nx nx' : Nat} {r : SV} {ups : List (Nat × Option Chunk)} {rs : List Nat} {as : List SV} (hr : HRel P ω w Im θ h) (hfr : ∀ x, nx ≤ x → x < nx' → θ x = none ∧ h x = none)
    (hl : LRel P ω w Im θ as (c.args.map a.eval).toList) (hm : mrun h (builtinX P b c.argTypes.toList as nx) = some (r, ups, nx', rs)) : Good P ω o a w Im θ h r ups nx nx' := by
  have hexec : ∀ (s : Sem Value) (v : Value) (w' : World), s.run P w = .ok v w' → (∀ cs : Array Bool, builtin b c.argTypes o.type cs (c.args.map a.eval) = (do pure (.value (← s)) : Sem Next)) → (execOp a.eval o).run P w = .ok (.value v) w' := by
    intro s v w' hs he
    simp [execOp, ho, resolve, hb, invoke, he, hs]
  unfold builtinX at hm
  split at hm
  · rename_i t t' ts s x hty
    obtain ⟨e1, e2⟩ := hd2 hty
    have hlen := hl.len
    simp only [List.length_cons, List.length_nil] at hlen
    match hus : (c.args.map a.eval).toList, hlen with
    | [us, ux], _ =>
      rw [hus] at hl
      obtain ⟨u1, u2⟩ := hd2 hus
      obtain ⟨v, w', θ', Im', q1, q2, q3, q4⟩ := run_appendX (ty := o.type) hr hfr hm (tys := c.argTypes) (args := c.args.map a.eval) (by simpa using e1) (by simpa using e2) (by simpa using u1) (by simpa using u2) (hl.at_ 0 s us rfl rfl) (hl.at_ 1 x ux rfl rfl)
      exact good_run (hexec _ _ _ q1 (fun _ => rfl)) q2 q3 q4
  · rename_i t ts x hty
    have e1 : c.argTypes[0]? = some t := by
      have := congrArg (·[0]?) hty
      simpa using this
    have hlen := hl.len
    simp only [List.length_cons, List.length_nil] at hlen
    match hus : (c.args.map a.eval).toList, hlen with
    | [ux], _ =>
      rw [hus] at hl
      have u1 : (c.args.map a.eval)[0]? = some ux := by
        have := congrArg (·[0]?) hus
        simpa using this
      obtain ⟨v, q1, q2, rfl, rfl⟩ := run_lenX (ty := o.type) hr hm e1 u1 (hl.at_ 0 x ux rfl rfl)
      exact good_value hr (hexec _ _ _ q1 (fun _ => rfl)) q2
  · rename_i x y
    have hlen := hl.len
    simp only [List.length_cons, List.length_nil] at hlen
    match hus : (c.args.map a.eval).toList, hlen with
    | [ux, uy], _ =>
      rw [hus] at hl
      obtain ⟨v, q1, q2, rfl, rfl⟩ := run_minMaxX (tys := c.argTypes) (ty := o.type) hm (hl.at_ 0 x ux rfl rfl) (hl.at_ 1 y uy rfl rfl) hus
      exact good_value hr (hexec _ _ _ q1 (fun _ => rfl)) q2
  · rename_i x y
    have hlen := hl.len
    simp only [List.length_cons, List.length_nil] at hlen
    match hus : (c.args.map a.eval).toList, hlen with
    | [ux, uy], _ =>
      rw [hus] at hl
      obtain ⟨v, q1, q2, rfl, rfl⟩ := run_minMaxX (tys := c.argTypes) (ty := o.type) hm (hl.at_ 0 x ux rfl rfl) (hl.at_ 1 y uy rfl rfl) hus
      exact good_value hr (hexec _ _ _ q1 (fun _ => rfl)) q2
  · rename_i t t' ts d s hty
    have e1 : c.argTypes[0]? = some t := by
      have := congrArg (·[0]?) hty
      simpa using this
    have hlen := hl.len
    simp only [List.length_cons, List.length_nil] at hlen
    match hus : (c.args.map a.eval).toList, hlen with
    | [ud, us], _ =>
      rw [hus] at hl
      have e : c.args.map a.eval = #[ud, us] := Array.ext' hus
      obtain ⟨v, w', q1, q2, q3, q4, rfl⟩ := run_copyX (ty := o.type) hr hm (hl.at_ 0 _ ud rfl rfl) (hl.at_ 1 _ us rfl rfl) e1 e
      exact good_run (hexec _ _ _ q1 (fun _ => rfl)) (q2.mono (fun _ h => h.elim)) q3 q4
  · rename_i x hty
    have hlen := hl.len
    simp only [List.length_cons, List.length_nil] at hlen
    match hus : (c.args.map a.eval).toList, hlen with
    | [ux], _ =>
      rw [hus] at hl
      have e : c.args.map a.eval = #[ux] := Array.ext' hus
      obtain ⟨v, q1, q2, rfl, rfl⟩ := run_sliceDataX hm (hl.at_ 0 _ ux rfl rfl) c.argTypes o.type
      exact good_value hr (hexec _ _ _ q1 (fun _ => by rw [e]; rfl)) q2
  · rename_i t ts x n hty
    have e1 : c.argTypes[0]? = some t := by
      have := congrArg (·[0]?) hty
      simpa using this
    have hlen := hl.len
    simp only [List.length_cons, List.length_nil] at hlen
    match hus : (c.args.map a.eval).toList, hlen with
    | [ux, un], _ =>
      rw [hus] at hl
      have e : c.args.map a.eval = #[ux, un] := Array.ext' hus
      obtain ⟨v, w', q1, q2, q3, q4, rfl⟩ := run_unsafeStrX (ty := o.type) hr hm (hl.at_ 0 _ ux rfl rfl) (hl.at_ 1 _ un rfl rfl) e1 e
      exact good_run (hexec _ _ _ q1 (fun _ => rfl)) (q2.mono (fun _ h => h.elim)) q3 q4
  · simp [mrun] at hm

theorem ext_weaken {new : Nat → Prop} {h' : HpF} {w' : World} {Im' : Nat → Prop} {θ' : Th} (e : Ext (fun _ => False) h w Im θ h' w' Im' θ') : Ext new h w Im θ h' w' Im' θ' := e.mono (fun _ h => h.elim)

theorem run_sliceX {t : TypeId} {lo hi mx : Option Operand} {x : Operand} {ev : Operand → SV} {a : Act} (hev : ∀ y ∈ (Op.slice t x lo hi mx).operands, VRel P ω w Im θ (ev y) (a.eval y)) {nx nx' : Nat} {r : SV} {ups : List (Nat × Option Chunk)} {rs : List Nat} (hr : HRel P ω w Im θ h)
    (hm : mrun h (sliceX P t lo.isSome hi.isSome mx.isSome ((Op.slice t x lo hi mx).operands.toList.map ev) nx) = some (r, ups, nx', rs)) :
    ∃ v, (Instr.sliceAt t (a.eval x) (lo.map a.eval) (hi.map a.eval) (mx.map a.eval)).run P w = .ok v w ∧ VRel P ω w Im θ r v ∧ ups = [] ∧ nx' = nx := by
  have hm' : mrun h (slcX P t (ev x) (lo.map ev) (hi.map ev) (mx.map ev) nx) = some (r, ups, nx', rs) := by
    cases lo <;> cases hi <;> cases mx <;> first
      | exact hm
      | (simp [sliceX, Op.operands, mrun] at hm; done)
  simp only [Op.operands] at hev
  refine run_slcX hr hm' (hev x (by simp)) (fun h => ?_) (fun v h => ?_) (fun h => ?_) (fun v h => ?_) (fun h => ?_) (fun v h => ?_)
  · cases lo <;> simp_all
  · cases lo with
    | none => cases h
    | some l => cases h; exact ⟨_, rfl, hev l (by simp)⟩
  · cases hi <;> simp_all
  · cases hi with
    | none => cases h
    | some l => cases h; exact ⟨_, rfl, hev l (by simp)⟩
  · cases mx <;> simp_all
  · cases mx with
    | none => cases h
    | some l => cases h; exact ⟨_, rfl, hev l (by simp)⟩

theorem run_fieldAddrX {t : TypeId} {x : SV} {f : Nat} {nx nx' : Nat} {r : SV} {ups : List (Nat × Option Chunk)} {rs : List Nat} (hm : mrun h (fieldAddrX P t x f nx) = some (r, ups, nx', rs)) {u : Value} (hx : VRel P ω w Im θ x u) :
    ∃ v, (Instr.fieldAt t u f).run P w = .ok v w ∧ VRel P ω w Im θ r v ∧ ups = [] ∧ nx' = nx := by
  unfold fieldAddrX at hm
  split at hm
  case h_2 => simp [mrun] at hm
  rename_i fs hu
  split at hm
  case h_2 => simp [mrun] at hm
  rename_i fd hf
  cases hz : Nat.beq (P.cellsOf fd.type) 0 with
  | true => simp [hz, mrun] at hm
  | false =>
    simp only [hz, cond_false] at hm
    have hne : P.cellsOf fd.type ≠ 0 := fun e => by rw [nb_t e] at hz; cases hz
    obtain ⟨i, hi⟩ := info_of_cells hne
    split at hm
    · obtain ⟨rfl, rfl, rfl, _⟩ := mrun_done hm
      cases hx with
      | pel h1 h2 h3 =>
        refine ⟨_, ?_, .pel h1 h2 h3, rfl, rfl⟩
        simp [Instr.fieldAt, run_underlying hu, hf, Instr.sureAddr, fieldPlace, run_sizeOf' hi, hne, add_off, Nat.add_assoc]
    · obtain ⟨rfl, rfl, rfl, _⟩ := mrun_done hm
      cases hx with
      | qp hθ =>
        refine ⟨_, ?_, .qp hθ, rfl, rfl⟩
        simp [Instr.fieldAt, run_underlying hu, hf, Instr.sureAddr, fieldPlace, run_sizeOf' hi, hne, add_off, Nat.add_assoc]
    · simp [mrun] at hm

theorem run_assertX {t xt : TypeId} {ok : Bool} {x : SV} {nx nx' : Nat} {r : SV} {ups : List (Nat × Option Chunk)} {rs : List Nat} (hm : mrun h (assertX P t ok x nx) = some (r, ups, nx', rs)) {u : Value} (hx : VRel P ω w Im θ x u) :
    ∃ v, (Instr.typeAssert u xt t ok).run P w = .ok v w ∧ VRel P ω w Im θ r v ∧ ups = [] ∧ nx' = nx := by
  have pair : ∀ {v : SV} {u : Value} (b : Bool), VRel P ω w Im θ v u → VRel P ω w Im θ (.tup [v, .bool b]) (.tuple #[u, .bool b]) := by
    intro v u b hv
    refine .tup rfl (fun i x y hx hy => ?_)
    match i, hx, hy with
    | 0, hx, hy => cases hx; cases hy; exact hv
    | 1, hx, hy => cases hx; cases hy; exact .bool
  have hno : ∀ {d : TypeDesc}, P.underlying t = some d → (∀ ms, d ≠ .interface ms) → (u = .nilIface ∨ ∃ t' u', u = .iface t' u' ∧ t' ≠ t) → mrun h (assertNo P t ok nx) = some (r, ups, nx', rs) → ∃ v, (Instr.typeAssert u xt t ok).run P w = .ok v w ∧ VRel P ω w Im θ r v ∧ ups = [] ∧ nx' = nx := by
    intro d hd hni hu hm2
    clear hm
    unfold assertNo at hm2
    have hb0 := bif_fail hm2; clear hm2; obtain ⟨hok, hm⟩ := hb0
    subst hok
    split at hm
    case h_2 => simp [mrun] at hm
    · rename_i z hz
      obtain ⟨rfl, rfl, rfl, -⟩ := mrun_done hm
      unfold zeroS at hz
      cases hi : P.info? t with
      | none => simp [hi] at hz
      | some i =>
        simp only [hi] at hz
        cases hzz : i.zero with
        | none => simp [hzz] at hz
        | some zv =>
          simp only [hzz, Option.some.injEq] at hz
          subst hz
          have hzr : (zeroValue t).run P w = .ok zv w := by simp [zeroValue, typeInfo, hi, hzz]
          refine ⟨.tuple #[zv, .bool false], ?_, pair false (ofValue_rel (ω := ω) w Im θ zv), rfl, rfl⟩
          rcases hu with rfl | ⟨t', u', rfl, hne⟩
          · cases d <;> first | exact (hni _ rfl).elim | simp [Instr.typeAssert, run_underlying hd, hzr]
          · cases d <;> first | exact (hni _ rfl).elim | simp [Instr.typeAssert, run_underlying hd, hzr, hne]
  unfold assertX at hm
  split at hm
  · simp [mrun] at hm
  · simp [mrun] at hm
  · rename_i d t' v hni hd
    cases hx with
    | iface hv =>
      rename_i u'
      cases hb : Nat.beq t' t with
      | false =>
        rw [hb] at hm
        exact hno hd (fun ms e => hni ms e) (.inr ⟨t', u', rfl, by intro e; subst e; simp at hb⟩) (by simpa using hm)
      | true =>
        rw [hb] at hm
        have : t' = t := Nat.eq_of_beq_eq_true hb
        subst this
        obtain ⟨rfl, rfl, rfl, -⟩ := mrun_done (by simpa using hm)
        cases ok with
        | false =>
          refine ⟨u', ?_, hv, rfl, rfl⟩
          cases d <;> first | exact (hni _ rfl).elim | simp [Instr.typeAssert, run_underlying hd]
        | true =>
          refine ⟨.tuple #[u', .bool true], ?_, pair true hv, rfl, rfl⟩
          cases d <;> first | exact (hni _ rfl).elim | simp [Instr.typeAssert, run_underlying hd]
  · rename_i d hni hd
    cases hx
    exact hno hd (fun ms e => hni ms e) (.inl rfl) hm
  · simp [mrun] at hm

theorem opX_good {o : Oper} {a : Act} {ev : Operand → SV} {nx nx' : Nat} {r : SV} {ups : List (Nat × Option Chunk)} {rs : List Nat} (hr : HRel P ω w Im θ h) (hev : ∀ x ∈ o.op.operands, VRel P ω w Im θ (ev x) (a.eval x)) (hfr : ∀ x, nx ≤ x → x < nx' → θ x = none ∧ h x = none)
    (hm : mrun h (opX P o.op (o.op.operands.toList.map ev) nx) = some (r, ups, nx', rs)) : Good P ω o a w Im θ h r ups nx nx' := by
  obtain ⟨dst, op, type, pos, after, guard⟩ := o
  simp only at hm hev
  cases op
  case load t x =>
    have hx := hev x (by simp [Op.operands])
    obtain ⟨v, h1, h2, rfl, rfl⟩ := run_loadX hr hm hx
    exact good_value hr (by simp [execOp, h1]) h2
  case store t x v =>
    obtain ⟨w', Im', h1, rfl, rfl, h2, h3⟩ := run_storeX hr hm (hev x (by simp [Op.operands])) (hev v (by simp [Op.operands]))
    exact good_skip (by simp [execOp, h1]) (ext_weaken h2) h3
  case makeInterface t x =>
    have hx := hev x (by simp [Op.operands])
    simp only [opX, Op.operands, List.map_cons, List.map_nil] at hm
    split at hm
    · simp [mrun] at hm
    · rename_i d hni hd
      obtain ⟨rfl, rfl, rfl, _⟩ := mrun_done hm
      refine good_value hr (v := .iface t (a.eval x)) ?_ (.iface hx)
      cases d <;> first | exact (hni _ rfl).elim | simp [execOp, Instr.makeInterface, run_underlying hd]
    · simp [mrun] at hm
  case typeAssert x xt t ok =>
    obtain ⟨v, h1, h2, rfl, rfl⟩ := run_assertX (xt := xt) hm (hev x (by simp [Op.operands]))
    exact good_value hr (by simp [execOp, h1]) h2
  case nilCheck x =>
    have hx := hev x (by simp [Op.operands])
    simp only [Op.operands, List.map_cons, List.map_nil] at hm
    generalize hux : a.eval x = u at hx
    generalize ev x = z at hx hm
    cases z <;> simp only [opX] at hm <;> try (simp [mrun] at hm; done)
    · obtain ⟨rfl, rfl, rfl, _⟩ := mrun_done hm
      refine good_value hr ?_ hx
      cases hx
      simp [execOp, hux]
    · obtain ⟨rfl, rfl, rfl, _⟩ := mrun_done hm
      refine good_value hr ?_ hx
      cases hx
      simp [execOp, hux]
  case fieldAddr t x f =>
    obtain ⟨v, h1, h2, rfl, rfl⟩ := run_fieldAddrX hm (hev x (by simp [Op.operands]))
    exact good_value hr (by simp [execOp, h1]) h2
  case indexAddr t x ix =>
    obtain ⟨v, h1, h2, rfl, rfl⟩ := run_indexAddrX hm (hev x (by simp [Op.operands])) (hev ix (by simp [Op.operands]))
    exact good_value hr (by simp [execOp, h1]) h2
  case slice t x lo hi mx =>
    obtain ⟨v, h1, h2, rfl, rfl⟩ := run_sliceX hev hr hm
    exact good_value hr (by simp [execOp, h1]) h2
  case makeMap t rv =>
    cases rv with
    | some n => simp [opX, Op.operands, mrun] at hm
    | none =>
      simp only [opX, Op.operands, Option.toArray_none, List.map_nil] at hm
      split at hm
      · rename_i kt et hu
        obtain ⟨rfl, rfl, rfl, _⟩ := mrun_done hm
        obtain ⟨f1, f2⟩ := hfr nx (Nat.le_refl _) (Nat.lt_succ_self _)
        obtain ⟨v, w', θ', Im', h1, h2, h3, h4⟩ := run_makeMapX hu hr f1 f2
        exact good_run (by simp [execOp, h1]) h2 h3 h4
      · simp [mrun] at hm
  case insert t m k x =>
    obtain ⟨w', h1, rfl, rfl, h2, h3⟩ := run_mapSetX hr hm (hev m (by simp [Op.operands])) (hev k (by simp [Op.operands])) (hev x (by simp [Op.operands]))
    exact good_skip (by simp [execOp, h1]) (ext_weaken h2) h3
  case mapUpdate t m k x =>
    obtain ⟨w', h1, rfl, rfl, h2, h3⟩ := run_mapSetX hr hm (hev m (by simp [Op.operands])) (hev k (by simp [Op.operands])) (hev x (by simp [Op.operands]))
    exact good_skip (by simp [execOp, h1]) (ext_weaken h2) h3
  case lookup t m k ok =>
    obtain ⟨v, h1, h2, rfl, rfl⟩ := run_lookupX hr hm (hev m (by simp [Op.operands])) (hev k (by simp [Op.operands]))
    exact good_value hr (by simp [execOp, h1]) h2
  case convert s d x =>
    obtain ⟨v, w', θ', Im', h1, h2, h3, h4⟩ := run_convX hr hfr hm (hev x (by simp [Op.operands]))
    exact good_run (by simp [execOp, h1]) h2 h3 h4
  case unOp op t x =>
    have hx := hev x (by simp [Op.operands])
    simp only [Op.operands, List.map_cons, List.map_nil] at hm
    generalize hux : a.eval x = u at hx
    generalize ev x = z at hx hm
    cases op <;> (try (simp [opX, mrun] at hm; done))
    cases z <;> simp only [opX] at hm <;> try (simp [mrun] at hm; done)
    obtain ⟨rfl, rfl, rfl, _⟩ := mrun_done hm
    cases hx
    exact good_value hr (by simp [execOp, hux, Op.unary, Op.intBits]) .int
  case binOp op t x y yt =>
    have hx := hev x (by simp [Op.operands])
    have hy := hev y (by simp [Op.operands])
    simp only [Op.operands, List.map_cons, List.map_nil] at hm
    generalize hux : a.eval x = u at hx
    generalize huy : a.eval y = v at hy
    generalize ev x = z at hx hm
    generalize ev y = z' at hy hm
    have fin : ∀ (b : Bool), isEq op = some b → ∀ {e : TypeId}, P.underlying t = some (.slice e) → ((∃ q n cap, u = .slice (some q) n cap ∧ v = .slice none 0 0) ∨ (∃ q n cap, v = .slice (some q) n cap ∧ u = .slice none 0 0)) →
        (execOp a.eval { dst := dst, op := .binOp op t x y yt, type := type, pos := pos, after := after, guard := guard }).run P w = .ok (.value (.bool (!b))) w := by
      intro b hb e hu hc
      simp only [execOp, hux, huy]
      have h1 : ¬ (u = .nilIface ∧ v = .nilIface) := by
        rcases hc with ⟨q, n, cap, rfl, rfl⟩ | ⟨q, n, cap, rfl, rfl⟩ <;> (rintro ⟨h, _⟩; cases h)
      have h2 : ∀ xs ys, ¬ (u = .agg xs ∧ v = .agg ys) := by
        rcases hc with ⟨q, n, cap, rfl, rfl⟩ | ⟨q, n, cap, rfl, rfl⟩ <;> (rintro xs ys ⟨h, _⟩; cases h)
      have hq : (Op.equal t u v).run P w = .ok false w := by
        rw [equal_succ]
        generalize (9999 : Nat) = D
        rcases hc with ⟨q, n, cap, rfl, rfl⟩ | ⟨q, n, cap, rfl, rfl⟩ <;> simp [Op.equalIn, run_underlying hu]
      have g := run_eqGuard_skip (P := P) (op := op) (t := t) (x := x) (y := y) (w := w) h1 h2
      have hbin : (binOp op t u v).run P w = .ok (.bool (!b)) w := by
        rcases isEq_some hb with ⟨rfl, rfl⟩ | ⟨rfl, rfl⟩ <;> rcases hc with ⟨q, n, cap, rfl, rfl⟩ | ⟨q, n, cap, rfl, rfl⟩ <;> simp [binOp, hq]
      simp [g, hbin]
    simp only [opX] at hm
    split at hm
    · rename_i hu hb
      obtain ⟨rfl, rfl, rfl, _⟩ := mrun_done hm
      refine good_value hr (fin _ hb hu ?_) .bool
      cases hx
      cases hy
      exact .inl ⟨_, _, _, rfl, rfl⟩
    · rename_i hu hb
      obtain ⟨rfl, rfl, rfl, _⟩ := mrun_done hm
      refine good_value hr (fin _ hb hu ?_) .bool
      cases hx
      cases hy
      exact .inr ⟨_, _, _, rfl, rfl⟩
    · rename_i hu hb
      obtain ⟨rfl, rfl, rfl, _⟩ := mrun_done hm
      refine good_value hr (fin _ hb hu ?_) .bool
      cases hx
      cases hy
      exact .inl ⟨_, _, _, rfl, rfl⟩
    · rename_i hu hb
      have hb0 := mrun_ite_fail' hm; clear hm; obtain ⟨hc, hm⟩ := hb0
      obtain ⟨rfl, rfl, rfl, _⟩ := mrun_done hm
      have hc' := of_decide_eq_true hc
      refine good_value hr (fin _ hb hu ?_) .bool
      cases hx with
      | qs _ _ _ =>
        cases hy
        exact .inl ⟨_, _, _, rfl, rfl⟩
      | qsnil h0 => omega
    · rename_i e a1 i1 b1 j1 r1 hu hb
      have hb0 := bif_fail hm; clear hm; obtain ⟨hk, hm⟩ := hb0
      simp only [Bool.and_eq_true] at hk
      have : a1 = b1 := Nat.eq_of_beq_eq_true hk.1.2
      subst this
      have : i1 = j1 := Nat.eq_of_beq_eq_true hk.2
      subst this
      obtain ⟨q, hq⟩ := known_info hk.1.1
      obtain ⟨rfl, rfl, rfl, _⟩ := mrun_done hm
      refine good_value hr ?_ .bool
      cases hx with
      | ptr g1 =>
        cases hy with
        | ptr g2 =>
          rw [g1] at g2
          simp only [Option.some.injEq, Prod.mk.injEq] at g2
          obtain ⟨rfl, rfl⟩ := g2
          simp only [execOp, hux, huy]
          rename_i bb NN
          have heq : (Op.equal t (.pointer (some ⟨bb, i1, none⟩)) (.pointer (some ⟨bb, i1, none⟩))).run P w = .ok true w := by
            rw [equal_succ]
            generalize (9999 : Nat) = D
            simp [Op.equalIn, run_underlying hu, sizeOf, typeInfo, hq, run_sameAddr_same]
          have g := run_eqGuard_skip (P := P) (op := op) (t := t) (x := x) (y := y) (w := w) (a := .pointer (some ⟨bb, i1, none⟩)) (b := .pointer (some ⟨bb, i1, none⟩)) (by rintro ⟨h, _⟩; cases h) (by rintro xs ys ⟨h, _⟩; cases h)
          have hbin : (binOp op t (.pointer (some ⟨bb, i1, none⟩)) (.pointer (some ⟨bb, i1, none⟩))).run P w = .ok (.bool r1) w := by
            rcases isEq_some hb with ⟨rfl, rfl⟩ | ⟨rfl, rfl⟩ <;> simp [binOp, heq]
          simp [g, hbin]
    · simp [mrun] at hm
  case call c =>
    simp only [opX] at hm
    split at hm
    · rename_i b hb
      refine builtinX_good (c := c) (b := b) rfl hb hr hfr ?_ hm
      simp only [Op.operands, Call.operands, hb] at hev ⊢
      refine ⟨by simp, fun i v u hv hu => ?_⟩
      simp only [List.getElem?_map, Array.getElem?_toList, Option.map_eq_some_iff] at hv
      obtain ⟨q, hq, rfl⟩ := hv
      simp only [Array.toList_map, List.getElem?_map, Array.getElem?_toList, Option.map_eq_some_iff] at hu
      obtain ⟨q', hq', rfl⟩ := hu
      simp only [Array.empty_append] at hq
      rw [hq'] at hq
      cases hq
      exact hev _ (by simp; exact Array.mem_of_getElem? hq')
    · rename_i f hcal
      split at hm
      case h_2 => simp [mrun] at hm
      rename_i g args has
      obtain ⟨callee, cargs, argTypes⟩ := c
      simp only at hcal
      subst hcal
      simp only [Op.operands, Call.operands] at has hev
      have has' : ev f :: cargs.toList.map ev = .fn (.func g) [] [] :: args := by simpa using has
      simp only [List.cons.injEq] at has'
      obtain ⟨he, rfl⟩ := has'
      have hf := hev f (by simp)
      rw [he] at hf
      generalize hu : a.eval f = u at hf
      cases hf with
      | fn h1 h2 h3 h4 =>
        rename_i us vs
        have e1 : us = #[] := by apply Array.ext'; exact List.eq_nil_of_length_eq_zero (by simpa using h1.symm)
        have e2 : vs = #[] := by apply Array.ext'; exact List.eq_nil_of_length_eq_zero (by simpa using h2.symm)
        subst e1
        subst e2
        have hl : LRel P ω w Im θ (cargs.toList.map ev) (cargs.map a.eval).toList := by
          refine ⟨by simp, fun i v u hv hu => ?_⟩
          simp only [List.getElem?_map, Array.getElem?_toList, Option.map_eq_some_iff] at hv
          obtain ⟨q, hq, rfl⟩ := hv
          simp only [Array.toList_map, List.getElem?_map, Array.getElem?_toList, Option.map_eq_some_iff] at hu
          obtain ⟨q', hq', rfl⟩ := hu
          rw [hq'] at hq
          cases hq
          exact hev _ (by simp; exact .inr (Array.mem_of_getElem? hq'))
        obtain ⟨v, w', θ', Im', q1, q2, q3, q4⟩ := run_externX hr hfr hm hl
        refine good_run ?_ q2 q3 q4
        have : (execOp a.eval { dst := dst, op := .call { callee := .value f, args := cargs, argTypes := argTypes }, type := type, pos := pos, after := after, guard := guard }).run P w = (callFunc g (cargs.map a.eval)).run P w := by
          simp [execOp, resolve, hu, Deferred.ofValue, invoke]
        rw [this]
        exact q1
    · simp [mrun] at hm
  all_goals (simp [opX, mrun] at hm)
end
end Go.Am
