/- The abstract machine: a region whose guards are not decided. -/
import Derived.Test.YtbeolnccdhjjeaaAmDraw
namespace Go.Am
variable {P : Program} {ω : Nat → Value}

structure StOk (s : St) : Prop where
  size : s.size < 16000
  nx : s.nx < 1000000
  out : ∀ t, s.size ≤ t → s.tmp t = .junk
  dom : ∀ x c, s.hp.get x = some c → x < s.nx
  m : s.m ≤ s.nx

theorem evT_ev (s : St) : s.ev = evT s.tmp := by
  funext x; cases x <;> rfl

theorem tmp_put {s : St} {dst : Option Nat} {v : SV} (h : dstN s.size dst) (hs : s.size < 16000) : (s.put dst v).tmp = updT s.tmp dst v := by
  cases dst with
  | none => rfl
  | some d =>
    funext t
    simp only [St.put, St.tmp, updT]
    rw [Tr.get_set 14 s.tm d (some v) t (by simp only [dstN] at h; omega)]
    by_cases e : t = d <;> simp [e]

def holds (T : Nat → SV) (L : Chain) : Prop := ∀ p ∈ L, T p.1 = .bool p.2

structure Inv (env : List (Nat × Chain)) (Ta Ts : Nat → SV) : Prop where
  out : ∀ t, chainOf env t = none → Ta t = Ts t
  yes : ∀ t L, chainOf env t = some L → holds Ta L → Ta t = Ts t
  no : ∀ t L, chainOf env t = some L → ¬ holds Ta L → Ta t = .tup []
  guards : ∀ t L, chainOf env t = some L → ∀ p ∈ L, ∃ c, chainOf env p.1 = some c

theorem eqChain_eq : ∀ {a b : Chain}, eqChain a b = true → a = b
  | [], [], _ => rfl
  | [], _ :: _, h => by simp [eqChain] at h
  | _ :: _, [], h => by simp [eqChain] at h
  | (a, b) :: l, (c, d) :: m, h => by
    simp only [eqChain, Bool.and_eq_true, beq_iff_eq] at h
    rw [Nat.eq_of_beq_eq_true h.1.1, h.1.2, eqChain_eq h.2]
theorem endsIn_holds {T : Nat → SV} {a : Chain} : ∀ {b : Chain}, endsIn a b = true → holds T b → holds T a
  | [], h, hb => by
    simp only [endsIn] at h
    rw [eqChain_eq h]; exact hb
  | p :: l, h, hb => by
    simp only [endsIn, Bool.or_eq_true] at h
    rcases h with h | h
    · rw [eqChain_eq h]; exact hb
    · exact endsIn_holds h (fun q hq => hb q (by simp [hq]))

theorem underOk_eq {env : List (Nat × Chain)} {Ta Ts : Nat → SV} (inv : Inv env Ta Ts) {L : Chain} (hL : holds Ta L) : ∀ {l : List Operand}, underOk env L l = true → ∀ x ∈ l, evT Ta x = evT Ts x
  | [], _, _, hx => by cases hx
  | y :: l, h, x, hx => by
    rcases List.mem_cons.1 hx with rfl | hx
    · cases x with
      | tmp t =>
        simp only [underOk, Bool.and_eq_true] at h
        simp only [evT]
        cases hc : chainOf env t with
        | none => exact inv.out t hc
        | some c =>
          rw [hc] at h
          exact inv.yes t c hc (endsIn_holds h.1 hL)
      | _ => rfl
    · refine underOk_eq inv hL (l := l) ?_ x hx
      cases y <;> simp only [underOk, Bool.and_eq_true] at h <;> first | exact h.2 | exact h

theorem mspec_run {h : Tr Chunk} {nx : Nat} : ∀ {m : OpM} {r : SV}, mspec h nx m = some r → ∃ rs, mrun h.get m = some (r, [], nx, rs)
  | .done r0 ups nx0, r, hm => by
    simp only [mspec] at hm
    cases ups with
    | cons => cases hm
    | nil =>
      simp only [] at hm
      cases hb : Nat.beq nx0 nx with
      | false => simp [hb] at hm
      | true =>
        simp [hb] at hm
        subst hm
        rw [Nat.eq_of_beq_eq_true hb]
        exact ⟨[], rfl⟩
  | .get x f, r, hm => by
    simp only [mspec] at hm
    cases hx : h.get x with
    | none => simp [hx] at hm
    | some c =>
      simp only [hx] at hm
      obtain ⟨rs, hr⟩ := mspec_run hm
      exact ⟨x :: rs, by simp [mrun, hx, hr]⟩
  | .ite _ _ _, _, hm => by simp [mspec] at hm
  | .fail, _, hm => by simp [mspec] at hm

theorem mergeSV_eq {t : Bool} {a b r : SV} (h : mergeSV t a b = some r) : r = if t then a else b := by
  unfold mergeSV at h
  split at h
  · simp only [Option.some.injEq] at h; subst h; cases t <;> rfl
  · rename_i k x k' y
    cases hk : ikEq k k' with
    | false => simp [hk] at h
    | true =>
      simp [hk] at h
      have := ikEq_eq hk
      subst this
      subst h; cases t <;> rfl
  · simp only [Option.some.injEq] at h; subst h; cases t <;> rfl
  · cases h

theorem specOp_run {κ : Nat → Option CSumm} {o : Oper} {s : St} {r : SV} {env : List (Nat × Chain)} {L : Chain} {Ta : Nat → SV} (inv : Inv env Ta s.tmp) (hL : holds Ta L) (hu : opUnder env L o.op = true) (h : specOp P κ o s = some r) :
    ∃ rs, mrun s.hp.get (opM P κ o (evT Ta) s.nx) = some (r, [], s.nx, rs) := by
  by_cases hp : ∃ c a b, o.op = .pick c a b
  · obtain ⟨c, a, b, hop⟩ := hp
    obtain ⟨dst, op, type, pos, after, guard⟩ := o
    simp only at hop
    subst hop
    simp only [specOp] at h
    simp only [opM]
    rw [evT_ev] at h
    split at h
    · rename_i t ht
      have hr := mergeSV_eq h
      have key : evT Ta c = .bool t ∧ (t = true → evT Ta a = evT s.tmp a) ∧ (t = false → evT Ta b = evT s.tmp b) := by
        cases c with
        | tmp tc =>
          simp only [opUnder, Bool.and_eq_true] at hu
          have hc := underOk_eq inv hL hu.1.1 (.tmp tc) (by simp)
          rw [ht] at hc
          refine ⟨hc, fun e => ?_, fun e => ?_⟩
          · refine underOk_eq inv (L := (tc, true) :: L) ?_ hu.1.2 a (by simp)
            intro p hp
            rcases List.mem_cons.1 hp with rfl | hp
            · simp only [evT] at hc; rw [hc, e]
            · exact hL p hp
          · refine underOk_eq inv (L := (tc, false) :: L) ?_ hu.2 b (by simp)
            intro p hp
            rcases List.mem_cons.1 hp with rfl | hp
            · simp only [evT] at hc; rw [hc, e]
            · exact hL p hp
        | const v =>
          have g := underOk_eq inv hL (show underOk env L [.const v, a, b] = true by simpa [opUnder, Op.operands] using hu)
          exact ⟨ht, fun _ => g a (by simp), fun _ => g b (by simp)⟩
        | global v =>
          have g := underOk_eq inv hL (show underOk env L [.global v, a, b] = true by simpa [opUnder, Op.operands] using hu)
          exact ⟨ht, fun _ => g a (by simp), fun _ => g b (by simp)⟩
        | func v =>
          have g := underOk_eq inv hL (show underOk env L [.func v, a, b] = true by simpa [opUnder, Op.operands] using hu)
          exact ⟨ht, fun _ => g a (by simp), fun _ => g b (by simp)⟩
      simp only [opM0, key.1]
      simp only [mrun]
      cases t with
      | true => rw [key.2.1 rfl]; simp at hr; rw [hr]; exact ⟨[], rfl⟩
      | false => rw [key.2.2 rfl]; simp at hr; rw [hr]; exact ⟨[], rfl⟩
    · cases h
  · have hs : specOp P κ o s = mspec s.hp s.nx (opM P κ o s.ev s.nx) := by
      unfold specOp
      split
      · rename_i c a b hop; exact absurd ⟨c, a, b, hop⟩ hp
      · rfl
    rw [hs, evT_ev] at h
    obtain ⟨rs, hr⟩ := mspec_run h
    have hu' : underOk env L o.op.operands.toList = true := by
      unfold opUnder at hu
      split at hu
      · rename_i c a b hop; exact absurd ⟨_, a, b, hop⟩ hp
      · exact hu
    have e : opM P κ o (evT Ta) s.nx = opM P κ o (evT s.tmp) s.nx := opM_congr (fun x hx => underOk_eq inv hL hu' x (by simpa using hx)) _
    rw [e]
    exact ⟨rs, hr⟩

theorem chainOf_put {env : List (Nat × Chain)} {L : Chain} {d t : Nat} : chainOf (envPut env L (some d)) t = if t = d then some L else chainOf env t := by
  simp only [envPut, chainOf]
  by_cases e : t = d
  · subst e; rw [nb_t rfl]; simp
  · rw [nb_f (Ne.symm e)]; simp [e]

theorem specC_run {κ : Nat → Option CSumm} {all : List Oper} : ∀ (os : List Oper) (env env' : List (Nat × Chain)) (s s' : St) (Ta : Nat → SV), StOk s → specC P κ all os env s = some (env', s') → Inv env Ta s.tmp →
    ∃ recs Ta', Txt P κ all s.size os Ta s.hp.get s.nx recs Ta' s.hp.get s.nx ∧ (∀ ρ ∈ recs, ρ.ups = []) ∧ Inv env' Ta' s'.tmp ∧ StOk s' ∧ s'.size = s.size ∧ s'.hp = s.hp ∧ s'.nx = s.nx ∧ s'.m = s.m ∧ s'.dirty = s.dirty ∧
      (∀ p ∈ env', p ∈ env ∨ p.1 < s.size)
  | [], env, env', s, s', Ta, hs, h, inv => by
    simp only [specC, Option.some.injEq, Prod.mk.injEq] at h
    obtain ⟨rfl, rfl⟩ := h
    exact ⟨[], Ta, .nil, fun _ h => (by cases h), inv, hs, rfl, rfl, rfl, rfl, rfl, fun p hp => .inl hp⟩
  | o :: os, env, env', s, s', Ta, hs, h, inv => by
    simp only [specC] at h
    cases hc : specChain all env s o.guard with
    | none => simp [hc] at h
    | some L =>
      simp only [hc] at h
      cases hd : specDst env s o.dst && opUnder env L o.op with
      | false => simp [hd] at h
      | true =>
        simp only [hd, cond_true] at h
        simp only [Bool.and_eq_true] at hd
        cases hr : specOp P κ o s with
        | none => simp [hr] at h
        | some r =>
          simp only [hr] at h
          have hdN : dstN s.size o.dst := by
            have := hd.1
            cases hod : o.dst with
            | none => trivial
            | some d =>
              rw [hod] at this
              simp only [specDst, Bool.and_eq_true] at this
              have h1 := this.1
              rwa [Nat.blt_eq] at h1
          have hdE : ∀ d, o.dst = some d → chainOf env d = none := by
            intro d hod
            have := hd.1
            rw [hod] at this
            simp only [specDst, Bool.and_eq_true] at this
            cases hx : chainOf env d with
            | none => rfl
            | some c => rw [hx] at this; exact absurd this.2 (by simp)
          have htm := tmp_put (v := r) hdN hs.size
          have hs1 : StOk (s.put o.dst r) := by
            have e1 : (s.put o.dst r).size = s.size := by cases o.dst <;> rfl
            have e2 : (s.put o.dst r).nx = s.nx := by cases o.dst <;> rfl
            have e3 : (s.put o.dst r).hp = s.hp := by cases o.dst <;> rfl
            have e4 : (s.put o.dst r).m = s.m := by cases o.dst <;> rfl
            refine ⟨by rw [e1]; exact hs.size, by rw [e2]; exact hs.nx, ?_, by rw [e3, e2]; exact hs.dom, by rw [e4, e2]; exact hs.m⟩
            rw [e1, htm]
            intro t ht
            cases hod : o.dst with
            | none => simpa [updT] using hs.out t ht
            | some d =>
              rw [hod] at hdN
              have : t ≠ d := by intro e; subst e; simp only [dstN] at hdN; omega
              simp [updT, this, hs.out t ht]
          have esz : (s.put o.dst r).size = s.size := by cases o.dst <;> rfl
          have enx : (s.put o.dst r).nx = s.nx := by cases o.dst <;> rfl
          have ehp : (s.put o.dst r).hp = s.hp := by cases o.dst <;> rfl
          have em : (s.put o.dst r).m = s.m := by cases o.dst <;> rfl
          have edi : (s.put o.dst r).dirty = s.dirty := by cases o.dst <;> rfl
          -- the guard
          have hg : (∃ go, wantedT all s.size Ta o = some go ∧ (go = true → holds Ta L) ∧ (go = false → ¬ holds Ta L)) ∧ (∀ p ∈ L, ∃ c, chainOf env p.1 = some c) := by
            unfold specChain at hc
            unfold wantedT
            cases hgd : o.guard with
            | none =>
              rw [hgd] at hc
              simp only [Option.some.injEq] at hc
              subst hc
              exact ⟨⟨true, rfl, fun _ p hp => (by cases hp), fun h => (by cases h)⟩, fun p hp => (by cases hp)⟩
            | some jw =>
              obtain ⟨j, w⟩ := jw
              rw [hgd] at hc
              simp only [nth?_eq] at hc
              simp only []
              cases hj : all[j]? with
              | none => simp [hj] at hc
              | some oj =>
                simp only [hj] at hc ⊢
                cases hjd : oj.dst with
                | none => simp [hjd] at hc
                | some d =>
                  simp only [hjd] at hc ⊢
                  split at hc
                  · rename_i c b hce hsb
                    cases hlt : Nat.blt d s.size with
                    | false => simp [hlt] at hc
                    | true =>
                      simp only [hlt, cond_true, Option.some.injEq] at hc
                      subst hc
                      have hdn : d < s.size := by rwa [Nat.blt_eq] at hlt
                      simp only [hdn, if_true]
                      constructor
                      · by_cases hh : holds Ta c
                        · have e := inv.yes d c hce hh
                          rw [hsb] at e
                          rw [e]
                          refine ⟨b == w, rfl, fun hgo p hp => ?_, fun hgo hall => ?_⟩
                          · rcases List.mem_cons.1 hp with rfl | hp
                            · simp only [beq_iff_eq] at hgo; rw [e, hgo]
                            · exact hh p hp
                          · have := hall (d, w) (by simp)
                            rw [e] at this
                            simp only [SV.bool.injEq] at this
                            rw [this] at hgo
                            simp at hgo
                        · have e := inv.no d c hce hh
                          rw [e]
                          exact ⟨false, rfl, fun h => (by cases h), fun _ hall => hh (fun p hp => hall p (by simp [hp]))⟩
                      · intro p hp
                        rcases List.mem_cons.1 hp with rfl | hp
                        · exact ⟨c, hce⟩
                        · exact inv.guards d c hce p hp
                  · cases hc
          obtain ⟨⟨go, hw, hgo1, hgo2⟩, hguards⟩ := hg
          -- what is put keeps the invariant
          have hinv : ∀ v, (holds Ta L → v = r) → (¬ holds Ta L → v = .tup []) → Inv (envPut env L o.dst) (updT Ta o.dst v) (s.put o.dst r).tmp := by
            intro v hv1 hv2
            rw [htm]
            cases hod : o.dst with
            | none => exact inv
            | some d =>
              have hdn := hdE d hod
              have hne : ∀ p1, (∃ c, chainOf env p1 = some c) → p1 ≠ d := by
                rintro p1 ⟨c, hc⟩ rfl
                rw [hdn] at hc; cases hc
              have hsame : ∀ M : Chain, (∀ p ∈ M, ∃ c, chainOf env p.1 = some c) → (holds (updT Ta (some d) v) M ↔ holds Ta M) := by
                intro M hM
                constructor
                · intro hh p hp
                  have := hh p hp
                  simpa [updT, hne p.1 (hM p hp)] using this
                · intro hh p hp
                  simpa [updT, hne p.1 (hM p hp)] using hh p hp
              refine ⟨?_, ?_, ?_, ?_⟩
              · intro t ht
                rw [chainOf_put] at ht
                by_cases e : t = d
                · simp [e] at ht
                · simp only [e, if_false] at ht
                  simp [updT, e, inv.out t ht]
              · intro t M ht hh
                rw [chainOf_put] at ht
                by_cases e : t = d
                · simp only [e, if_true, Option.some.injEq] at ht
                  subst ht
                  rw [hsame L hguards] at hh
                  simp [updT, e, hv1 hh]
                · simp only [e, if_false] at ht
                  rw [hsame M (inv.guards t M ht)] at hh
                  simp [updT, e, inv.yes t M ht hh]
              · intro t M ht hh
                rw [chainOf_put] at ht
                by_cases e : t = d
                · simp only [e, if_true, Option.some.injEq] at ht
                  subst ht
                  rw [hsame L hguards] at hh
                  simp [updT, e, hv2 hh]
                · simp only [e, if_false] at ht
                  rw [hsame M (inv.guards t M ht)] at hh
                  simp [updT, e, inv.no t M ht hh]
              · intro t M ht p hp
                rw [chainOf_put] at ht
                have : ∃ c, chainOf env p.1 = some c := by
                  by_cases e : t = d
                  · simp only [e, if_true, Option.some.injEq] at ht
                    subst ht
                    exact hguards p hp
                  · simp only [e, if_false] at ht
                    exact inv.guards t M ht p hp
                obtain ⟨c, hc⟩ := this
                exact ⟨c, by rw [chainOf_put, if_neg (hne p.1 ⟨c, hc⟩)]; exact hc⟩
          have henv : ∀ p ∈ envPut env L o.dst, p ∈ env ∨ p.1 < s.size := by
            intro p hp
            cases hod : o.dst with
            | none => rw [hod] at hp; exact .inl hp
            | some d =>
              rw [hod] at hp hdN
              simp only [envPut, List.mem_cons] at hp
              rcases hp with rfl | hp
              · exact .inr hdN
              · exact .inl hp
          cases go with
          | true =>
            have hh := hgo1 rfl
            obtain ⟨rs, hm⟩ := specOp_run inv hh hd.2 hr
            obtain ⟨recs, Ta', ht, hups, hi, hs', g1, g2, g3, g4, g5, g6⟩ := specC_run os _ env' _ s' (updT Ta o.dst r) hs1 h (hinv r (fun _ => rfl) (fun hn => absurd hh hn))
            rw [esz, ehp, enx] at ht
            refine ⟨_ :: recs, Ta', .run hdN hw hm ht, ?_, hi, hs', by rw [g1, esz], by rw [g2, ehp], by rw [g3, enx], by rw [g4, em], by rw [g5, edi], fun p hp => ?_⟩
            · intro ρ hρ
              rcases List.mem_cons.1 hρ with rfl | hρ
              · rfl
              · exact hups ρ hρ
            · rcases g6 p hp with h1 | h1
              · exact henv p h1
              · exact .inr (by rwa [esz] at h1)
          | false =>
            have hh := hgo2 rfl
            obtain ⟨recs, Ta', ht, hups, hi, hs', g1, g2, g3, g4, g5, g6⟩ := specC_run os _ env' _ s' (updT Ta o.dst (.tup [])) hs1 h (hinv (.tup []) (fun hy => absurd hy hh) (fun _ => rfl))
            rw [esz, ehp, enx] at ht
            refine ⟨_ :: recs, Ta', .skip hdN hw ht, ?_, hi, hs', by rw [g1, esz], by rw [g2, ehp], by rw [g3, enx], by rw [g4, em], by rw [g5, edi], fun p hp => ?_⟩
            · intro ρ hρ
              rcases List.mem_cons.1 hρ with rfl | hρ
              · rfl
              · exact hups ρ hρ
            · rcases g6 p hp with h1 | h1
              · exact henv p h1
              · exact .inr (by rwa [esz] at h1)

theorem forget_spec : ∀ (env : List (Nat × Chain)) (s : St), StOk s → (∀ p ∈ env, p.1 < s.size) → StOk (forget env s) ∧ (forget env s).size = s.size ∧ (forget env s).hp = s.hp ∧ (forget env s).nx = s.nx ∧ (forget env s).m = s.m ∧ (forget env s).dirty = s.dirty ∧
    (∀ t, (forget env s).tmp t = .junk ∨ ((forget env s).tmp t = s.tmp t ∧ ∀ L, (t, L) ∈ env → L = []))
  | [], s, hs, _ => ⟨hs, rfl, rfl, rfl, rfl, rfl, fun t => .inr ⟨rfl, fun L hL => by cases hL⟩⟩
  | (x, []) :: l, s, hs, hp => by
    simp only [forget]
    obtain ⟨g1, g2, g3, g4, g5, g6, g7⟩ := forget_spec l s hs (fun p h => hp p (by simp [h]))
    refine ⟨g1, g2, g3, g4, g5, g6, fun t => ?_⟩
    rcases g7 t with h | ⟨h1, h2⟩
    · exact .inl h
    · refine .inr ⟨h1, fun L hL => ?_⟩
      rcases List.mem_cons.1 hL with h3 | h3
      · cases h3; rfl
      · exact h2 L h3
  | (x, q :: c) :: l, s, hs, hp => by
    simp only [forget]
    have hx : x < s.size := hp (x, q :: c) (by simp)
    have htm := tmp_put (s := s) (dst := some x) (v := .junk) hx hs.size
    have hs1 : StOk (s.put (some x) .junk) := by
      refine ⟨hs.size, hs.nx, ?_, hs.dom, hs.m⟩
      rw [htm]
      intro t ht
      by_cases e : t = x
      · simp [updT, e]
      · simp only [updT, e, if_false]; exact hs.out t ht
    obtain ⟨g1, g2, g3, g4, g5, g6, g7⟩ := forget_spec l (s.put (some x) .junk) hs1 (fun p h => hp p (by simp [h]))
    refine ⟨g1, g2, g3, g4, g5, g6, fun t => ?_⟩
    rcases g7 t with h | ⟨h1, h2⟩
    · exact .inl h
    · rw [htm] at h1
      by_cases e : t = x
      · left; rw [h1]; simp [updT, e]
      · refine .inr ⟨by rw [h1]; simp [updT, e], fun L hL => ?_⟩
        rcases List.mem_cons.1 hL with h3 | h3
        · simp only [Prod.mk.injEq] at h3; exact absurd h3.1 e
        · exact h2 L h3

theorem chainOf_mem : ∀ {env : List (Nat × Chain)} {t : Nat} {L : Chain}, chainOf env t = some L → (t, L) ∈ env
  | [], _, _, h => by cases h
  | (x, c) :: l, t, L, h => by
    simp only [chainOf] at h
    cases hb : Nat.beq x t with
    | true => rw [hb] at h; simp at h; subst h; rw [Nat.eq_of_beq_eq_true hb]; simp
    | false => rw [hb] at h; simp at h; simp [chainOf_mem h]

theorem specRun_run {κ : Nat → Option CSumm} {ops : List Oper} {draw : Bool} {s s' : St} (hs : StOk s) (h : specRun P κ ops draw s = some s') :
    (draw = true → staticOk ops (befAll ops []) [] ops 0 = true) ∧ ∃ recs Ta, Txt P κ ops s.size ops s.tmp s.hp.get s.nx recs Ta s.hp.get s.nx ∧ (∀ ρ ∈ recs, ρ.ups = []) ∧ StOk s' ∧ s'.size = s.size ∧ s'.hp = s.hp ∧ s'.nx = s.nx ∧ s'.m = s.m ∧ s'.dirty = s.dirty ∧
      (∀ t, s'.tmp t = .junk ∨ s'.tmp t = Ta t) := by
  unfold specRun at h
  cases hc : s.sp && hasGuard ops && (!draw || staticOk ops (befAll ops []) [] ops 0) with
  | false => simp [hc] at h
  | true =>
    simp only [hc, cond_true] at h
    simp only [Bool.and_eq_true, Bool.or_eq_true, Bool.not_eq_true'] at hc
    cases hsp : specC P κ ops ops [] s with
    | none => simp [hsp] at h
    | some p =>
      obtain ⟨env, s1⟩ := p
      simp only [hsp, Option.some.injEq] at h
      subst h
      have inv0 : Inv [] s.tmp s.tmp := ⟨fun _ _ => rfl, fun t L h => (by cases h), fun t L h => (by cases h), fun t L h => (by cases h)⟩
      obtain ⟨recs, Ta, ht, hups, hi, hs1, g1, g2, g3, g4, g5, g6⟩ := specC_run ops [] env s s1 s.tmp hs hsp inv0
      obtain ⟨f1, f2, f3, f4, f5, f6, f7⟩ := forget_spec env s1 hs1 (fun p hp => by
        rcases g6 p hp with h | h
        · cases h
        · rw [g1]; exact h)
      refine ⟨fun hd => ?_, recs, Ta, ht, hups, f1, by rw [f2, g1], by rw [f3, g2], by rw [f4, g3], by rw [f5, g4], by rw [f6, g5], fun t => ?_⟩
      · rcases hc.2 with h | h
        · rw [hd] at h; cases h
        · exact h
      · rcases f7 t with h | ⟨h1, h2⟩
        · exact .inl h
        · right
          rw [h1]
          cases hce : chainOf env t with
          | none => exact (hi.out t hce).symm
          | some L =>
            have := h2 L (chainOf_mem hce)
            subst this
            exact (hi.yes t [] hce (fun p hp => by cases hp)).symm

theorem specC_rd {κ : Nat → Option CSumm} {all : List Oper} : ∀ (os : List Oper) (env env' : List (Nat × Chain)) (s s' : St), specC P κ all os env s = some (env', s') → s'.rd = s.rd
  | [], env, env', s, s', h => by
    simp only [specC, Option.some.injEq, Prod.mk.injEq] at h
    rw [h.2]
  | o :: os, env, env', s, s', h => by
    simp only [specC] at h
    cases hc : specChain all env s o.guard with
    | none => simp [hc] at h
    | some L =>
      simp only [hc] at h
      cases hd : specDst env s o.dst && opUnder env L o.op with
      | false => simp [hd] at h
      | true =>
        simp only [hd, cond_true] at h
        cases hr : specOp P κ o s with
        | none => simp [hr] at h
        | some r =>
          simp only [hr] at h
          rw [specC_rd os _ _ _ _ h]
          cases o.dst <;> rfl
theorem forget_rd : ∀ (env : List (Nat × Chain)) (s : St), (forget env s).rd = s.rd
  | [], s => rfl
  | (x, []) :: l, s => by simp only [forget]; exact forget_rd l s
  | (x, q :: c) :: l, s => by simp only [forget]; rw [forget_rd l]; rfl
theorem specRun_rd {κ : Nat → Option CSumm} {ops : List Oper} {draw : Bool} {s s' : St} (h : specRun P κ ops draw s = some s') : s'.rd = s.rd := by
  unfold specRun at h
  cases hc : s.sp && hasGuard ops && (!draw || staticOk ops (befAll ops []) [] ops 0) with
  | false => simp [hc] at h
  | true =>
    simp only [hc, cond_true] at h
    cases hsp : specC P κ ops ops [] s with
    | none => simp [hsp] at h
    | some p =>
      obtain ⟨env, s1⟩ := p
      simp only [hsp, Option.some.injEq] at h
      rw [← h, forget_rd, specC_rd _ _ _ _ _ hsp]

theorem SimF.weaken {n : Nat} {T T' : Nat → SV} {h : HpF} {a : Act} {w : World} {Im : Nat → Prop} {θ : Th} (s : SimF P ω n T h a w Im θ) (ht : ∀ t, T' t = .junk ∨ T' t = T t) : SimF P ω n T' h a w Im θ := by
  refine ⟨s.size, fun t htn => ?_, fun t htn => ?_, s.df, s.hp⟩
  · rcases ht t with e | e
    · rw [e]; exact .junk
    · rw [e]; exact s.tm t htn
  · rcases ht t with e | e
    · exact e
    · rw [e]; exact s.out t htn

theorem footsOk_nil (bs : List Nat) : ∀ (l : List Foot), (∀ f ∈ l, f.writes = []) → footsOk bs l = true
  | [], _ => rfl
  | f :: l, h => by
    simp only [footsOk, Bool.and_eq_true]
    refine ⟨List.all_eq_true.2 (fun g hg => ?_), footsOk_nil bs l (fun g hg => h g (by simp [hg]))⟩
    have h1 := h f (by simp)
    have h2 := h g (by simp [hg])
    have : apartF f g = true := by
      unfold apartF
      rw [h1, h2]
      have e : ∀ l : List Nat, overlap l [] = false := by
        intro l
        induction l with
        | nil => rfl
        | cons x l ih => simp [overlap, memN, ih]
      simp [overlap, e]
    simp [this]
theorem feet_nil : ∀ (l : List Rec) (i : Nat) (acc : List Foot), (∀ ρ ∈ l, ρ.ups = []) → (∀ f ∈ acc, f.writes = []) → ∀ f ∈ feet i l acc, f.writes = []
  | [], _, _, _, h => h
  | ρ :: l, i, acc, hl, ha => by
    simp only [feet]
    refine feet_nil l (i + 1) _ (fun σ hσ => hl σ (by simp [hσ])) ?_
    intro f hf
    split at hf
    · rcases List.mem_cons.1 hf with rfl | hf
      · simp [hl ρ (by simp)]
      · exact ha f hf
    · exact ha f hf

end Go.Am
