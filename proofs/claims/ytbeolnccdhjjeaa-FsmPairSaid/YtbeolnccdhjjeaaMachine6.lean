/- The abstract machine: a region whose guards are not decided. -/
import Derived.Test.YtbeolnccdhjjeaaMachine5
import Derived.RangeFuncRecord
import Derived.RangeFuncLeaves
import Derived.LoopNIn
import Derived.RangeFuncNested
import Derived.Scope
set_option linter.unusedVariables false
set_option linter.unusedSimpArgs false
namespace Go.Am
variable {P : Program} {ω : Nat → Value}
structure StOk (s : St) : Prop where
 size : s.size < 16000
 nx : s.nx < 1000000
 out : ∀ t, s.size ≤ t → s.tmp t = .junk
 dom : ∀ x c, s.hp.get x = some c → x < s.nx
 m : s.m ≤ s.nx
theorem evT_ev (s : St) : s.ev = evT s.tmp := by
 funext x; cases x <;> rfl
theorem tmp_put {s : St} {dst : Option Nat} {v : SV} (h : dstN s.size dst) (hs : s.size < 16000) : (s.put dst v).tmp = updT s.tmp dst v := by
 cases dst with
 | none => rfl
 | some d =>
  funext t
  simp only [St.put, St.tmp, updT]
  rw [Tr.get_set 14 s.tm d (some v) t (by simp only [dstN] at h; omega)]
  by_cases e : t = d <;> simp [e]
def holds (T : Nat → SV) (L : Chain) : Prop := ∀ p ∈ L, T p.1 = .bool p.2
structure Inv (env : List (Nat × Chain)) (Ta Ts : Nat → SV) : Prop where
 out : ∀ t, chainOf env t = none → Ta t = Ts t
 yes : ∀ t L, chainOf env t = some L → holds Ta L → Ta t = Ts t
 no : ∀ t L, chainOf env t = some L → ¬ holds Ta L → Ta t = .tup []
 guards : ∀ t L, chainOf env t = some L → ∀ p ∈ L, ∃ c, chainOf env p.1 = some c
theorem eqChain_eq : ∀ {a b : Chain}, eqChain a b = true → a = b
 | [], [], _ => rfl
 | [], _ :: _, h => by simp [eqChain] at h
 | _ :: _, [], h => by simp [eqChain] at h
 | (a, b) :: l, (c, d) :: m, h => by
  simp only [eqChain, Bool.and_eq_true, beq_iff_eq] at h
  rw [Nat.eq_of_beq_eq_true h.1.1, h.1.2, eqChain_eq h.2]
theorem endsIn_holds {T : Nat → SV} {a : Chain} : ∀ {b : Chain}, endsIn a b = true → holds T b → holds T a
 | [], h, hb => by
  simp only [endsIn] at h
  rw [eqChain_eq h]; exact hb
 | p :: l, h, hb => by
  simp only [endsIn, Bool.or_eq_true] at h
  rcases h with h | h
  · rw [eqChain_eq h]; exact hb
  · exact endsIn_holds h (fun q hq => hb q (by simp [hq]))
theorem underOk_eq {env : List (Nat × Chain)} {Ta Ts : Nat → SV} (inv : Inv env Ta Ts) {L : Chain} (hL : holds Ta L) : ∀ {l : List Operand}, underOk env L l = true → ∀ x ∈ l, evT Ta x = evT Ts x
 | [], _, _, hx => by cases hx
 | y :: l, h, x, hx => by
  rcases List.mem_cons.1 hx with rfl | hx
  · cases x with
    | tmp t =>
     simp only [underOk, Bool.and_eq_true] at h
     simp only [evT]
     cases hc : chainOf env t with
     | none => exact inv.out t hc
     | some c =>
      rw [hc] at h
      exact inv.yes t c hc (endsIn_holds h.1 hL)
    | _ => rfl
  · refine underOk_eq inv hL (l := l) ?_ x hx
    cases y <;> simp only [underOk, Bool.and_eq_true] at h <;> first | exact h.2 | exact h
theorem mspec_run {h : Tr Chunk} {nx : Nat} : ∀ {m : OpM} {r : SV}, mspec h nx m = some r → ∃ rs, mrun h.get m = some (r, [], nx, rs)
 | .done r0 ups nx0, r, hm => by
  simp only [mspec] at hm
  cases ups with
  | cons => cases hm
  | nil =>
   simp only [] at hm
   cases hb : Nat.beq nx0 nx with
   | false => simp [hb] at hm
   | true =>
    simp [hb] at hm
    subst hm
    rw [Nat.eq_of_beq_eq_true hb]
    exact ⟨[], rfl⟩
 | .get x f, r, hm => by
  simp only [mspec] at hm
  cases hx : h.get x with
  | none => simp [hx] at hm
  | some c =>
   simp only [hx] at hm
   obtain ⟨rs, hr⟩ := mspec_run hm
   exact ⟨x :: rs, by simp [mrun, hx, hr]⟩
 | .ite _ _ _, _, hm => by simp [mspec] at hm
 | .fail, _, hm => by simp [mspec] at hm
theorem mergeSV_eq {t : Bool} {a b r : SV} (h : mergeSV t a b = some r) : r = if t then a else b := by
 unfold mergeSV at h
 split at h
 · simp only [Option.some.injEq] at h; subst h; cases t <;> rfl
 · rename_i k x k' y
   cases hk : ikEq k k' with
   | false => simp [hk] at h
   | true =>
    simp [hk] at h
    have := ikEq_eq hk
    subst this
    subst h; cases t <;> rfl
 · simp only [Option.some.injEq] at h; subst h; cases t <;> rfl
 · cases h
theorem specOp_run {κ : Nat → Option CSumm} {o : Oper} {s : St} {r : SV} {env : List (Nat × Chain)} {L : Chain} {Ta : Nat → SV} (inv : Inv env Ta s.tmp) (hL : holds Ta L) (hu : opUnder env L o.op = true) (h : specOp P κ o s = some r) :
  ∃ rs, mrun s.hp.get (opM P κ o (evT Ta) s.nx) = some (r, [], s.nx, rs) := by
 by_cases hp : ∃ c a b, o.op = .pick c a b
 · obtain ⟨c, a, b, hop⟩ := hp
   obtain ⟨dst, op, type, pos, after, guard⟩ := o
   simp only at hop
   subst hop
   simp only [specOp] at h
   simp only [opM]
   rw [evT_ev] at h
   split at h
   · rename_i t ht
     have hr := mergeSV_eq h
     have key : evT Ta c = .bool t ∧ (t = true → evT Ta a = evT s.tmp a) ∧ (t = false → evT Ta b = evT s.tmp b) := by
      cases c with
      | tmp tc =>
       simp only [opUnder, Bool.and_eq_true] at hu
       have hc := underOk_eq inv hL hu.1.1 (.tmp tc) (by simp)
       rw [ht] at hc
       refine ⟨hc, fun e => ?_, fun e => ?_⟩
       · refine underOk_eq inv (L := (tc, true) :: L) ?_ hu.1.2 a (by simp)
         intro p hp
         rcases List.mem_cons.1 hp with rfl | hp
         · simp only [evT] at hc; rw [hc, e]
         · exact hL p hp
       · refine underOk_eq inv (L := (tc, false) :: L) ?_ hu.2 b (by simp)
         intro p hp
         rcases List.mem_cons.1 hp with rfl | hp
         · simp only [evT] at hc; rw [hc, e]
         · exact hL p hp
      | const v =>
       have g := underOk_eq inv hL (show underOk env L [.const v, a, b] = true by simpa [opUnder, Op.operands] using hu)
       exact ⟨ht, fun _ => g a (by simp), fun _ => g b (by simp)⟩
      | global v =>
       have g := underOk_eq inv hL (show underOk env L [.global v, a, b] = true by simpa [opUnder, Op.operands] using hu)
       exact ⟨ht, fun _ => g a (by simp), fun _ => g b (by simp)⟩
      | func v =>
       have g := underOk_eq inv hL (show underOk env L [.func v, a, b] = true by simpa [opUnder, Op.operands] using hu)
       exact ⟨ht, fun _ => g a (by simp), fun _ => g b (by simp)⟩
     simp only [opM0, key.1]
     simp only [mrun]
     cases t with
     | true => rw [key.2.1 rfl]; simp at hr; rw [hr]; exact ⟨[], rfl⟩
     | false => rw [key.2.2 rfl]; simp at hr; rw [hr]; exact ⟨[], rfl⟩
   · cases h
 · have hs : specOp P κ o s = mspec s.hp s.nx (opM P κ o s.ev s.nx) := by
     unfold specOp
     split
     · rename_i c a b hop; exact absurd ⟨c, a, b, hop⟩ hp
     · rfl
   rw [hs, evT_ev] at h
   obtain ⟨rs, hr⟩ := mspec_run h
   have hu' : underOk env L o.op.operands.toList = true := by
    unfold opUnder at hu
    split at hu
    · rename_i c a b hop; exact absurd ⟨_, a, b, hop⟩ hp
    · exact hu
   have e : opM P κ o (evT Ta) s.nx = opM P κ o (evT s.tmp) s.nx := opM_congr (fun x hx => underOk_eq inv hL hu' x (by simpa using hx)) _
   rw [e]
   exact ⟨rs, hr⟩
theorem chainOf_put {env : List (Nat × Chain)} {L : Chain} {d t : Nat} : chainOf (envPut env L (some d)) t = if t = d then some L else chainOf env t := by
 simp only [envPut, chainOf]
 by_cases e : t = d
 · subst e; rw [nb_t rfl]; simp
 · rw [nb_f (Ne.symm e)]; simp [e]
theorem specC_run {κ : Nat → Option CSumm} {all : List Oper} : ∀ (os : List Oper) (env env' : List (Nat × Chain)) (s s' : St) (Ta : Nat → SV), StOk s → specC P κ all os env s = some (env', s') → Inv env Ta s.tmp →
  ∃ recs Ta', Txt P κ all s.size os Ta s.hp.get s.nx recs Ta' s.hp.get s.nx ∧ (∀ ρ ∈ recs, ρ.ups = []) ∧ Inv env' Ta' s'.tmp ∧ StOk s' ∧ s'.size = s.size ∧ s'.hp = s.hp ∧ s'.nx = s.nx ∧ s'.m = s.m ∧ s'.dirty = s.dirty ∧
   (∀ p ∈ env', p ∈ env ∨ p.1 < s.size)
 | [], env, env', s, s', Ta, hs, h, inv => by
  simp only [specC, Option.some.injEq, Prod.mk.injEq] at h
  obtain ⟨rfl, rfl⟩ := h
  exact ⟨[], Ta, .nil, fun _ h => (by cases h), inv, hs, rfl, rfl, rfl, rfl, rfl, fun p hp => .inl hp⟩
 | o :: os, env, env', s, s', Ta, hs, h, inv => by
  simp only [specC] at h
  cases hc : specChain all env s o.guard with
  | none => simp [hc] at h
  | some L =>
   simp only [hc] at h
   cases hd : specDst env s o.dst && opUnder env L o.op with
   | false => simp [hd] at h
   | true =>
    simp only [hd, cond_true] at h
    simp only [Bool.and_eq_true] at hd
    cases hr : specOp P κ o s with
    | none => simp [hr] at h
    | some r =>
     simp only [hr] at h
     have hdN : dstN s.size o.dst := by
      have := hd.1
      cases hod : o.dst with
      | none => trivial
      | some d =>
       rw [hod] at this
       simp only [specDst, Bool.and_eq_true] at this
       have h1 := this.1
       rwa [Nat.blt_eq] at h1
     have hdE : ∀ d, o.dst = some d → chainOf env d = none := by
      intro d hod
      have := hd.1
      rw [hod] at this
      simp only [specDst, Bool.and_eq_true] at this
      cases hx : chainOf env d with
      | none => rfl
      | some c => rw [hx] at this; exact absurd this.2 (by simp)
     have htm := tmp_put (v := r) hdN hs.size
     have hs1 : StOk (s.put o.dst r) := by
      have e1 : (s.put o.dst r).size = s.size := by cases o.dst <;> rfl
      have e2 : (s.put o.dst r).nx = s.nx := by cases o.dst <;> rfl
      have e3 : (s.put o.dst r).hp = s.hp := by cases o.dst <;> rfl
      have e4 : (s.put o.dst r).m = s.m := by cases o.dst <;> rfl
      refine ⟨by rw [e1]; exact hs.size, by rw [e2]; exact hs.nx, ?_, by rw [e3, e2]; exact hs.dom, by rw [e4, e2]; exact hs.m⟩
      rw [e1, htm]
      intro t ht
      cases hod : o.dst with
      | none => simpa [updT] using hs.out t ht
      | some d =>
       rw [hod] at hdN
       have : t ≠ d := by intro e; subst e; simp only [dstN] at hdN; omega
       simp [updT, this, hs.out t ht]
     have esz : (s.put o.dst r).size = s.size := by cases o.dst <;> rfl
     have enx : (s.put o.dst r).nx = s.nx := by cases o.dst <;> rfl
     have ehp : (s.put o.dst r).hp = s.hp := by cases o.dst <;> rfl
     have em : (s.put o.dst r).m = s.m := by cases o.dst <;> rfl
     have edi : (s.put o.dst r).dirty = s.dirty := by cases o.dst <;> rfl
     -- the guard
     have hg : (∃ go, wantedT all s.size Ta o = some go ∧ (go = true → holds Ta L) ∧ (go = false → ¬ holds Ta L)) ∧ (∀ p ∈ L, ∃ c, chainOf env p.1 = some c) := by
      unfold specChain at hc
      unfold wantedT
      cases hgd : o.guard with
      | none =>
       rw [hgd] at hc
       simp only [Option.some.injEq] at hc
       subst hc
       exact ⟨⟨true, rfl, fun _ p hp => (by cases hp), fun h => (by cases h)⟩, fun p hp => (by cases hp)⟩
      | some jw =>
       obtain ⟨j, w⟩ := jw
       rw [hgd] at hc
       simp only [nth?_eq] at hc
       simp only []
       cases hj : all[j]? with
       | none => simp [hj] at hc
       | some oj =>
        simp only [hj] at hc ⊢
        cases hjd : oj.dst with
        | none => simp [hjd] at hc
        | some d =>
         simp only [hjd] at hc ⊢
         split at hc
         · rename_i c b hce hsb
           cases hlt : Nat.blt d s.size with
           | false => simp [hlt] at hc
           | true =>
            simp only [hlt, cond_true, Option.some.injEq] at hc
            subst hc
            have hdn : d < s.size := by rwa [Nat.blt_eq] at hlt
            simp only [hdn, if_true]
            constructor
            · by_cases hh : holds Ta c
              · have e := inv.yes d c hce hh
                rw [hsb] at e
                rw [e]
                refine ⟨b == w, rfl, fun hgo p hp => ?_, fun hgo hall => ?_⟩
                · rcases List.mem_cons.1 hp with rfl | hp
                  · simp only [beq_iff_eq] at hgo; rw [e, hgo]
                  · exact hh p hp
                · have := hall (d, w) (by simp)
                  rw [e] at this
                  simp only [SV.bool.injEq] at this
                  rw [this] at hgo
                  simp at hgo
              · have e := inv.no d c hce hh
                rw [e]
                exact ⟨false, rfl, fun h => (by cases h), fun _ hall => hh (fun p hp => hall p (by simp [hp]))⟩
            · intro p hp
              rcases List.mem_cons.1 hp with rfl | hp
              · exact ⟨c, hce⟩
              · exact inv.guards d c hce p hp
         · cases hc
     obtain ⟨⟨go, hw, hgo1, hgo2⟩, hguards⟩ := hg
     -- what is put keeps the invariant
     have hinv : ∀ v, (holds Ta L → v = r) → (¬ holds Ta L → v = .tup []) → Inv (envPut env L o.dst) (updT Ta o.dst v) (s.put o.dst r).tmp := by
      intro v hv1 hv2
      rw [htm]
      cases hod : o.dst with
      | none => exact inv
      | some d =>
       have hdn := hdE d hod
       have hne : ∀ p1, (∃ c, chainOf env p1 = some c) → p1 ≠ d := by
        rintro p1 ⟨c, hc⟩ rfl
        rw [hdn] at hc; cases hc
       have hsame : ∀ M : Chain, (∀ p ∈ M, ∃ c, chainOf env p.1 = some c) → (holds (updT Ta (some d) v) M ↔ holds Ta M) := by
        intro M hM
        constructor
        · intro hh p hp
          have := hh p hp
          simpa [updT, hne p.1 (hM p hp)] using this
        · intro hh p hp
          simpa [updT, hne p.1 (hM p hp)] using hh p hp
       refine ⟨?_, ?_, ?_, ?_⟩
       · intro t ht
         rw [chainOf_put] at ht
         by_cases e : t = d
         · simp [e] at ht
         · simp only [e, if_false] at ht
           simp [updT, e, inv.out t ht]
       · intro t M ht hh
         rw [chainOf_put] at ht
         by_cases e : t = d
         · simp only [e, if_true, Option.some.injEq] at ht
           subst ht
           rw [hsame L hguards] at hh
           simp [updT, e, hv1 hh]
         · simp only [e, if_false] at ht
           rw [hsame M (inv.guards t M ht)] at hh
           simp [updT, e, inv.yes t M ht hh]
       · intro t M ht hh
         rw [chainOf_put] at ht
         by_cases e : t = d
         · simp only [e, if_true, Option.some.injEq] at ht
           subst ht
           rw [hsame L hguards] at hh
           simp [updT, e, hv2 hh]
         · simp only [e, if_false] at ht
           rw [hsame M (inv.guards t M ht)] at hh
           simp [updT, e, inv.no t M ht hh]
       · intro t M ht p hp
         rw [chainOf_put] at ht
         have : ∃ c, chainOf env p.1 = some c := by
          by_cases e : t = d
          · simp only [e, if_true, Option.some.injEq] at ht
            subst ht
            exact hguards p hp
          · simp only [e, if_false] at ht
            exact inv.guards t M ht p hp
         obtain ⟨c, hc⟩ := this
         exact ⟨c, by rw [chainOf_put, if_neg (hne p.1 ⟨c, hc⟩)]; exact hc⟩
     have henv : ∀ p ∈ envPut env L o.dst, p ∈ env ∨ p.1 < s.size := by
      intro p hp
      cases hod : o.dst with
      | none => rw [hod] at hp; exact .inl hp
      | some d =>
       rw [hod] at hp hdN
       simp only [envPut, List.mem_cons] at hp
       rcases hp with rfl | hp
       · exact .inr hdN
       · exact .inl hp
     cases go with
     | true =>
      have hh := hgo1 rfl
      obtain ⟨rs, hm⟩ := specOp_run inv hh hd.2 hr
      obtain ⟨recs, Ta', ht, hups, hi, hs', g1, g2, g3, g4, g5, g6⟩ := specC_run os _ env' _ s' (updT Ta o.dst r) hs1 h (hinv r (fun _ => rfl) (fun hn => absurd hh hn))
      rw [esz, ehp, enx] at ht
      refine ⟨_ :: recs, Ta', .run hdN hw hm ht, ?_, hi, hs', by rw [g1, esz], by rw [g2, ehp], by rw [g3, enx], by rw [g4, em], by rw [g5, edi], fun p hp => ?_⟩
      · intro ρ hρ
        rcases List.mem_cons.1 hρ with rfl | hρ
        · rfl
        · exact hups ρ hρ
      · rcases g6 p hp with h1 | h1
        · exact henv p h1
        · exact .inr (by rwa [esz] at h1)
     | false =>
      have hh := hgo2 rfl
      obtain ⟨recs, Ta', ht, hups, hi, hs', g1, g2, g3, g4, g5, g6⟩ := specC_run os _ env' _ s' (updT Ta o.dst (.tup [])) hs1 h (hinv (.tup []) (fun hy => absurd hy hh) (fun _ => rfl))
      rw [esz, ehp, enx] at ht
      refine ⟨_ :: recs, Ta', .skip hdN hw ht, ?_, hi, hs', by rw [g1, esz], by rw [g2, ehp], by rw [g3, enx], by rw [g4, em], by rw [g5, edi], fun p hp => ?_⟩
      · intro ρ hρ
        rcases List.mem_cons.1 hρ with rfl | hρ
        · rfl
        · exact hups ρ hρ
      · rcases g6 p hp with h1 | h1
        · exact henv p h1
        · exact .inr (by rwa [esz] at h1)
theorem forget_spec : ∀ (env : List (Nat × Chain)) (s : St), StOk s → (∀ p ∈ env, p.1 < s.size) → StOk (forget env s) ∧ (forget env s).size = s.size ∧ (forget env s).hp = s.hp ∧ (forget env s).nx = s.nx ∧ (forget env s).m = s.m ∧ (forget env s).dirty = s.dirty ∧
  (∀ t, (forget env s).tmp t = .junk ∨ ((forget env s).tmp t = s.tmp t ∧ ∀ L, (t, L) ∈ env → L = []))
 | [], s, hs, _ => ⟨hs, rfl, rfl, rfl, rfl, rfl, fun t => .inr ⟨rfl, fun L hL => by cases hL⟩⟩
 | (x, []) :: l, s, hs, hp => by
  simp only [forget]
  obtain ⟨g1, g2, g3, g4, g5, g6, g7⟩ := forget_spec l s hs (fun p h => hp p (by simp [h]))
  refine ⟨g1, g2, g3, g4, g5, g6, fun t => ?_⟩
  rcases g7 t with h | ⟨h1, h2⟩
  · exact .inl h
  · refine .inr ⟨h1, fun L hL => ?_⟩
    rcases List.mem_cons.1 hL with h3 | h3
    · cases h3; rfl
    · exact h2 L h3
 | (x, q :: c) :: l, s, hs, hp => by
  simp only [forget]
  have hx : x < s.size := hp (x, q :: c) (by simp)
  have htm := tmp_put (s := s) (dst := some x) (v := .junk) hx hs.size
  have hs1 : StOk (s.put (some x) .junk) := by
   refine ⟨hs.size, hs.nx, ?_, hs.dom, hs.m⟩
   rw [htm]
   intro t ht
   by_cases e : t = x
   · simp [updT, e]
   · simp only [updT, e, if_false]; exact hs.out t ht
  obtain ⟨g1, g2, g3, g4, g5, g6, g7⟩ := forget_spec l (s.put (some x) .junk) hs1 (fun p h => hp p (by simp [h]))
  refine ⟨g1, g2, g3, g4, g5, g6, fun t => ?_⟩
  rcases g7 t with h | ⟨h1, h2⟩
  · exact .inl h
  · rw [htm] at h1
    by_cases e : t = x
    · left; rw [h1]; simp [updT, e]
    · refine .inr ⟨by rw [h1]; simp [updT, e], fun L hL => ?_⟩
      rcases List.mem_cons.1 hL with h3 | h3
      · simp only [Prod.mk.injEq] at h3; exact absurd h3.1 e
      · exact h2 L h3
theorem chainOf_mem : ∀ {env : List (Nat × Chain)} {t : Nat} {L : Chain}, chainOf env t = some L → (t, L) ∈ env
 | [], _, _, h => by cases h
 | (x, c) :: l, t, L, h => by
  simp only [chainOf] at h
  cases hb : Nat.beq x t with
  | true => rw [hb] at h; simp at h; subst h; rw [Nat.eq_of_beq_eq_true hb]; simp
  | false => rw [hb] at h; simp at h; simp [chainOf_mem h]
theorem specRun_run {κ : Nat → Option CSumm} {ops : List Oper} {draw : Bool} {s s' : St} (hs : StOk s) (h : specRun P κ ops draw s = some s') :
  (draw = true → staticOk ops (befAll ops []) [] ops 0 = true) ∧ ∃ recs Ta, Txt P κ ops s.size ops s.tmp s.hp.get s.nx recs Ta s.hp.get s.nx ∧ (∀ ρ ∈ recs, ρ.ups = []) ∧ StOk s' ∧ s'.size = s.size ∧ s'.hp = s.hp ∧ s'.nx = s.nx ∧ s'.m = s.m ∧ s'.dirty = s.dirty ∧
   (∀ t, s'.tmp t = .junk ∨ s'.tmp t = Ta t) := by
 unfold specRun at h
 cases hc : s.sp && hasGuard ops && (!draw || staticOk ops (befAll ops []) [] ops 0) with
 | false => simp [hc] at h
 | true =>
  simp only [hc, cond_true] at h
  simp only [Bool.and_eq_true, Bool.or_eq_true, Bool.not_eq_true'] at hc
  cases hsp : specC P κ ops ops [] s with
  | none => simp [hsp] at h
  | some p =>
   obtain ⟨env, s1⟩ := p
   simp only [hsp, Option.some.injEq] at h
   subst h
   have inv0 : Inv [] s.tmp s.tmp := ⟨fun _ _ => rfl, fun t L h => (by cases h), fun t L h => (by cases h), fun t L h => (by cases h)⟩
   obtain ⟨recs, Ta, ht, hups, hi, hs1, g1, g2, g3, g4, g5, g6⟩ := specC_run ops [] env s s1 s.tmp hs hsp inv0
   obtain ⟨f1, f2, f3, f4, f5, f6, f7⟩ := forget_spec env s1 hs1 (fun p hp => by
    rcases g6 p hp with h | h
    · cases h
    · rw [g1]; exact h)
   refine ⟨fun hd => ?_, recs, Ta, ht, hups, f1, by rw [f2, g1], by rw [f3, g2], by rw [f4, g3], by rw [f5, g4], by rw [f6, g5], fun t => ?_⟩
   · rcases hc.2 with h | h
     · rw [hd] at h; cases h
     · exact h
   · rcases f7 t with h | ⟨h1, h2⟩
     · exact .inl h
     · right
       rw [h1]
       cases hce : chainOf env t with
       | none => exact (hi.out t hce).symm
       | some L =>
        have := h2 L (chainOf_mem hce)
        subst this
        exact (hi.yes t [] hce (fun p hp => by cases hp)).symm
theorem specC_rd {κ : Nat → Option CSumm} {all : List Oper} : ∀ (os : List Oper) (env env' : List (Nat × Chain)) (s s' : St), specC P κ all os env s = some (env', s') → s'.rd = s.rd
 | [], env, env', s, s', h => by
  simp only [specC, Option.some.injEq, Prod.mk.injEq] at h
  rw [h.2]
 | o :: os, env, env', s, s', h => by
  simp only [specC] at h
  cases hc : specChain all env s o.guard with
  | none => simp [hc] at h
  | some L =>
   simp only [hc] at h
   cases hd : specDst env s o.dst && opUnder env L o.op with
   | false => simp [hd] at h
   | true =>
    simp only [hd, cond_true] at h
    cases hr : specOp P κ o s with
    | none => simp [hr] at h
    | some r =>
     simp only [hr] at h
     rw [specC_rd os _ _ _ _ h]
     cases o.dst <;> rfl
theorem forget_rd : ∀ (env : List (Nat × Chain)) (s : St), (forget env s).rd = s.rd
 | [], s => rfl
 | (x, []) :: l, s => by simp only [forget]; exact forget_rd l s
 | (x, q :: c) :: l, s => by simp only [forget]; rw [forget_rd l]; rfl
theorem specRun_rd {κ : Nat → Option CSumm} {ops : List Oper} {draw : Bool} {s s' : St} (h : specRun P κ ops draw s = some s') : s'.rd = s.rd := by
 unfold specRun at h
 cases hc : s.sp && hasGuard ops && (!draw || staticOk ops (befAll ops []) [] ops 0) with
 | false => simp [hc] at h
 | true =>
  simp only [hc, cond_true] at h
  cases hsp : specC P κ ops ops [] s with
  | none => simp [hsp] at h
  | some p =>
   obtain ⟨env, s1⟩ := p
   simp only [hsp, Option.some.injEq] at h
   rw [← h, forget_rd, specC_rd _ _ _ _ _ hsp]
theorem SimF.weaken {n : Nat} {T T' : Nat → SV} {h : HpF} {a : Act} {w : World} {Im : Nat → Prop} {θ : Th} (s : SimF P ω n T h a w Im θ) (ht : ∀ t, T' t = .junk ∨ T' t = T t) : SimF P ω n T' h a w Im θ := by
 refine ⟨s.size, fun t htn => ?_, fun t htn => ?_, s.df, s.hp⟩
 · rcases ht t with e | e
   · rw [e]; exact .junk
   · rw [e]; exact s.tm t htn
 · rcases ht t with e | e
   · exact e
   · rw [e]; exact s.out t htn
theorem footsOk_nil (bs : List Nat) : ∀ (l : List Foot), (∀ f ∈ l, f.writes = []) → footsOk bs l = true
 | [], _ => rfl
 | f :: l, h => by
  simp only [footsOk, Bool.and_eq_true]
  refine ⟨List.all_eq_true.2 (fun g hg => ?_), footsOk_nil bs l (fun g hg => h g (by simp [hg]))⟩
  have h1 := h f (by simp)
  have h2 := h g (by simp [hg])
  have : apartF f g = true := by
   unfold apartF
   rw [h1, h2]
   have e : ∀ l : List Nat, overlap l [] = false := by
    intro l
    induction l with
    | nil => rfl
    | cons x l ih => simp [overlap, memN, ih]
   simp [overlap, e]
  simp [this]
theorem feet_nil : ∀ (l : List Rec) (i : Nat) (acc : List Foot), (∀ ρ ∈ l, ρ.ups = []) → (∀ f ∈ acc, f.writes = []) → ∀ f ∈ feet i l acc, f.writes = []
 | [], _, _, _, h => h
 | ρ :: l, i, acc, hl, ha => by
  simp only [feet]
  refine feet_nil l (i + 1) _ (fun σ hσ => hl σ (by simp [hσ])) ?_
  intro f hf
  split at hf
  · rcases List.mem_cons.1 hf with rfl | hf
    · simp [hl ρ (by simp)]
    · exact ha f hf
  · exact ha f hf
end Go.Am
/- The abstract machine: the records of ranges over functions. -/
namespace Go.Am
variable {P : Program} {ω : Nat → Value}
theorem alloc_free {w : World} {Im : Nat → Prop} {θ : Th} {h : HpF} (hr : HRel P ω w Im θ h) (o : Obj) : Ext (fun _ => False) h w Im θ h (w.alloc o) Im θ ∧ HRel P ω (w.alloc o) Im θ h := by
 have hold : ∀ b, b < w.heap.size → (w.alloc o).heap[b]? = w.heap[b]? := fun b hb => alloc_old w _ b hb
 have hI : ∀ b, Im b → Im b ∧ (w.alloc o).heap[b]? = w.heap[b]? := fun b hb => ⟨hb, hold b (hr.im b hb)⟩
 refine ⟨⟨fun _ _ => rfl, fun _ _ h => h, fun _ h => h, by simp, fun b hb _ => hold b hb, fun b hb => .inl hb, fun x c b N hx hb => .inl ⟨x, c, N, hx, hb⟩, rfl, rfl, rfl⟩, ?_⟩
 refine ⟨fun x c hx => (hr.at_ x c hx).mono hI (fun _ _ h => h) rfl (fun b N hb => hold b (hr.own x c b N hx hb).2), hr.inj, fun x c b N hx hb => ⟨(hr.own x c b N hx hb).1, ?_⟩, fun b hb => ?_, hr.gl.mono hI⟩
 · have := (hr.own x c b N hx hb).2; simp; omega
 · have := hr.im b hb; simp; omega
theorem alloc_loop {w : World} {Im : Nat → Prop} {θ : Th} {h : HpF} (hr : HRel P ω w Im θ h) {nx : Nat} (hθ : θ nx = none) {st : LS} {vs : List SV} {lp : Loop} (hl : LRel P ω w Im θ vs lp.tmps.toList) (hs : stRel st lp.state lp.pending) :
  ∃ θ', Ext (fun x => nx ≤ x ∧ x < nx + 1) h w Im θ (updF [(nx, some (.loopr st vs lp.params lp.assign lp.body))] h) (w.alloc (.loop lp)) Im θ' ∧
   HRel P ω (w.alloc (.loop lp)) Im θ' (updF [(nx, some (.loopr st vs lp.params lp.assign lp.body))] h) ∧ θ' nx = some (w.heap.size, 0) := by
 let θ' : Th := fun x => if x = nx then some (w.heap.size, 0) else θ x
 have hup : ∀ x p, θ x = some p → θ' x = some p := by
  intro x p hp
  by_cases hx : x = nx
  · subst hx; rw [hθ] at hp; cases hp
  · simp [θ', hx, hp]
 have hold : ∀ b, b < w.heap.size → (w.alloc (.loop lp)).heap[b]? = w.heap[b]? := fun b hb => alloc_old w _ b hb
 have hI : ∀ b, Im b → Im b ∧ (w.alloc (.loop lp)).heap[b]? = w.heap[b]? := fun b hb => ⟨hb, hold b (hr.im b hb)⟩
 refine ⟨θ', ?_, ?_, by simp [θ']⟩
 · refine ⟨?_, hup, fun _ h => h, by simp, fun b hb _ => hold b hb, fun b hb => .inl hb, ?_, rfl, rfl, rfl⟩
   · intro x hx
     have : x ≠ nx := by intro e; subst e; exact hx ⟨Nat.le_refl _, Nat.lt_succ_self _⟩
     simp [θ', this]
   · intro x c b N hx hb
     by_cases hxn : x = nx
     · subst hxn
       simp [θ'] at hb
       exact .inr (by omega)
     · simp [θ', hxn] at hb
       simp [updF, hxn] at hx
       exact .inl ⟨x, c, N, hx, hb⟩
 · refine ⟨?_, ?_, ?_, fun b hb => by have := hr.im b hb; simp; omega, hr.gl.mono hI⟩
   · intro x c hx
     by_cases hxn : x = nx
     · subst hxn
       simp [updF] at hx
       subst hx
       exact ⟨w.heap.size, 0, lp, by simp [θ'], alloc_new w _, rfl, rfl, rfl, hs, hl.mono hI hup⟩
     · simp [updF, hxn] at hx
       exact (hr.at_ x c hx).mono hI hup (by simp [θ', hxn]) (fun b N hb => hold b (hr.own x c b N hx hb).2)
   · intro x y c c' b N N' hx hy hb hb'
     by_cases hxn : x = nx
     · by_cases hyn : y = nx
       · rw [hxn, hyn]
       · simp [updF, hyn] at hy
         simp [θ', hyn] at hb'
         simp [θ', hxn] at hb
         have := (hr.own y c' b N' hy hb').2
         omega
     · by_cases hyn : y = nx
       · simp [updF, hxn] at hx
         simp [θ', hxn] at hb
         simp [θ', hyn] at hb'
         have := (hr.own x c b N hx hb).2
         omega
       · simp [updF, hxn] at hx
         simp [updF, hyn] at hy
         simp [θ', hxn] at hb
         simp [θ', hyn] at hb'
         exact hr.inj x y c c' b N N' hx hy hb hb'
   · intro x c b N hx hb
     by_cases hxn : x = nx
     · simp [θ', hxn] at hb
       refine ⟨fun hi => ?_, by simp; omega⟩
       have := hr.im b hi
       omega
     · simp [updF, hxn] at hx
       simp [θ', hxn] at hb
       have := hr.own x c b N hx hb
       exact ⟨this.1, by simp; omega⟩
theorem put_loop {w : World} {Im : Nat → Prop} {θ : Th} {h : HpF} (hr : HRel P ω w Im θ h) {x b N : Nat} {st st' : LS} {vs : List SV} {ps : Array Nat} {asg bdy : Code} (hx : h x = some (.loopr st vs ps asg bdy)) (hθ : θ x = some (b, N)) :
  ∃ lp : Loop, w.heap[b]? = some (.loop lp) ∧ lp.params = ps ∧ lp.assign = asg ∧ lp.body = bdy ∧ stRel st lp.state lp.pending ∧ LRel P ω w Im θ vs lp.tmps.toList ∧
   ∀ (s : LoopState) (pe : Option Code), stRel st' s pe → Ext (fun _ => False) h w Im θ (updF [(x, some (.loopr st' vs ps asg bdy))] h) (w.putObj b (.loop { lp with state := s, pending := pe })) Im θ ∧
    HRel P ω (w.putObj b (.loop { lp with state := s, pending := pe })) Im θ (updF [(x, some (.loopr st' vs ps asg bdy))] h) := by
 obtain ⟨b', N', lp, h1, h2, h3, h4, h5, h6, h7⟩ := hr.at_ x _ hx
 rw [hθ] at h1
 simp only [Option.some.injEq, Prod.mk.injEq] at h1
 obtain ⟨rfl, rfl⟩ := h1
 refine ⟨lp, h2, h3, h4, h5, h6, h7, fun s pe hs => put_block hr hx hθ _ _ (fun hI d hd => ?_)⟩
 cases hd
 exact ⟨b, N, _, hθ, World.putObj_heap_same (heap_lt h2), h3, h4, h5, hs, h7.mono hI (fun _ _ h => h)⟩
/- The function's end. -/
theorem leaves_marks {fn : Func} {tmps : Array Value} {ro : Option Nat} {R : Ending → World → Prop} : ∀ (rs : List Nat) (w : World), rs.Nodup → (∀ r ∈ rs, w.heap[r]? = some (.deferred (some []))) →
  (∀ w', w'.heap.size = w.heap.size → (∀ b, b ∉ rs → w'.heap[b]? = w.heap[b]?) → w'.os = w.os → w'.output = w.output → w'.tape = w.tape → ∃ v, (results fn tmps).run P w' = .ok v w' ∧ R (.returned v) w') →
  LeavesInM (FR ro) 0 P fn tmps R (rs.map fun r => { target := .collected r, args := #[] }) .returning w
 | [], w, _, _, hR => hR w rfl (fun _ _ => rfl) rfl rfl rfl
 | r :: rs, w, hnd, hat, hR => by
  rw [List.nodup_cons] at hnd
  refine ⟨by simp, .inl ⟨r, _, rfl, run_takeDeferred (hat r (by simp)), ?_⟩⟩
  refine leaves_marks rs _ hnd.2 (fun q hq => ?_) (fun w' h1 h2 h3 h4 h5 => hR w' (by simpa using h1) (fun b hb => ?_) h3 h4 h5)
  · rw [World.putObj_heap_other (show q ≠ r from fun e => hnd.1 (by rw [← e]; exact hq))]; exact hat q (by simp [hq])
  · simp only [List.mem_cons, not_or] at hb
    rw [h2 b hb.2, World.putObj_heap_other hb.1]
end Go.Am
/- The abstract machine: code. -/
namespace Go.Am
variable {P : Program} {ω : Nat → Value}
theorem upsTr_get : ∀ (l : List (Nat × Option Chunk)) (h : Tr Chunk), (∀ p ∈ l, p.1 < 1000000) → (upsTr l h).get = updF l h.get
 | [], _, _ => rfl
 | (x, c) :: l, h, hl => by
  simp only [upsTr, updF]
  rw [upsTr_get l _ (fun p hp => hl p (by simp [hp]))]
  congr 1
  funext y
  rw [Tr.get_set 20 h x c y (by have := hl (x, c) (by simp); simp at this; omega)]
/- What a state says of the model's. -/
structure Sim (P : Program) (ω : Nat → Value) (ρ : Option Nat) (s : St) (a : Act) (w : World) (Im : Nat → Prop) (θ : Th) : Prop where
 ok : StOk s
 sf : SimF P ω s.size s.tmp s.hp.get a w Im θ
 fr : Fr s.nx θ s.hp.get
 rd : (s.rd = none ∧ ρ = none) ∨ ∃ y b N, s.rd = some y ∧ θ y = some (b, N) ∧ ρ = some b
def mark (r : Nat) : Deferred := { target := .collected r, args := #[] }
def New (a a' : Act) (w : World) : Prop := ∃ rs : List Nat, a'.defers = rs.map mark ++ a.defers ∧ ∀ r ∈ rs, w.heap.size ≤ r
theorem New.refl {a a' : Act} {w : World} (h : a'.defers = a.defers) : New a a' w := ⟨[], by simpa using h, fun r hr => by cases hr⟩
theorem mark_inj2 : ∀ {rs rs' : List Nat} {b b' : List Deferred}, (∀ d ∈ b, ∀ r, d ≠ mark r) → (∀ d ∈ b', ∀ r, d ≠ mark r) → rs.map mark ++ b = rs'.map mark ++ b' → rs = rs'
 | [], [], _, _, _, _, _ => rfl
 | [], r :: rs', b, b', hb, _, h => by
  simp only [List.map_nil, List.nil_append, List.map_cons, List.cons_append] at h
  exact (hb (mark r) (by rw [h]; simp) r rfl).elim
 | r :: rs, [], b, b', _, hb, h => by
  simp only [List.map_nil, List.nil_append, List.map_cons, List.cons_append] at h
  exact (hb (mark r) (by rw [← h]; simp) r rfl).elim
 | r :: rs, r' :: rs', b, b', hb, hb', h => by
  simp only [List.map_cons, List.cons_append, List.cons.injEq] at h
  obtain ⟨h1, h2⟩ := h
  simp only [mark, Deferred.mk.injEq, Target.collected.injEq, and_true] at h1
  rw [h1, mark_inj2 hb hb' h2]
theorem New.trans {a a' a'' : Act} {w w' : World} (h : New a a' w) (h' : New a' a'' w') (hs : w.heap.size ≤ w'.heap.size) : New a a'' w := by
 obtain ⟨rs, h1, h2⟩ := h
 obtain ⟨rs', h3, h4⟩ := h'
 refine ⟨rs' ++ rs, by rw [h3, h1]; simp, fun r hr => ?_⟩
 rcases List.mem_append.1 hr with h5 | h5
 · have := h4 r h5; omega
 · exact h2 r h5
structure Later (s s2 : St) : Prop where
 m : s2.m = s.m
 nx : s.nx ≤ s2.nx
 same : ∀ x, x < s.m → s2.hp.get x = s.hp.get x ∨ x ∈ s2.dirty
 up : ∀ x ∈ s.dirty, x ∈ s2.dirty
 low : ∀ x ∈ s2.dirty, x ∈ s.dirty ∨ x < s.m
theorem Later.refl (s : St) : Later s s := ⟨rfl, Nat.le_refl _, fun _ _ => .inl rfl, fun _ h => h, fun _ h => .inl h⟩
theorem Later.of {s s2 : St} (h1 : s2.m = s.m) (h2 : s2.nx = s.nx) (h3 : s2.hp = s.hp) (h4 : s2.dirty = s.dirty) : Later s s2 :=
 ⟨h1, by rw [h2]; exact Nat.le_refl _, fun _ _ => .inl (by rw [h3]), fun _ h => by rw [h4]; exact h, fun _ h => .inl (by rw [← h4]; exact h)⟩
theorem Later.trans {a b c : St} (h : Later a b) (k : Later b c) : Later a c := by
 refine ⟨k.m.trans h.m, Nat.le_trans h.nx k.nx, fun x hx => ?_, fun x hx => k.up x (h.up x hx), fun x hx => ?_⟩
 · rcases k.same x (by rw [h.m]; exact hx) with h1 | h1
   · rcases h.same x hx with h2 | h2
     · exact .inl (h1.trans h2)
     · exact .inr (k.up x h2)
   · exact .inr h1
 · rcases k.low x hx with h1 | h1
   · exact h.low x h1
   · exact .inr (by rw [← h.m]; exact h1)
def exitOf : Ex → Exit
 | .normal => .normal
 | .exit id => .exit id
 | .ret => .ret
def After (P : Program) (ω : Nat → Value) (ρ : Option Nat) (s s2 : St) (a : Act) (w : World) (Im : Nat → Prop) (θ : Th) (K : Act → World → Prop) : Prop :=
 ∀ a' w' Im' θ', Sim P ω ρ s2 a' w' Im' θ' → Ext (fun x => s.nx ≤ x) s.hp.get w Im θ s2.hp.get w' Im' θ' → New a a' w → K a' w'
theorem After.trans {ρ : Option Nat} {s s1 s2 : St} {a a1 : Act} {w w1 : World} {Im Im1 : Nat → Prop} {θ θ1 : Th} {K : Act → World → Prop} (hl : Later s s1)
  (hE : Ext (fun x => s.nx ≤ x) s.hp.get w Im θ s1.hp.get w1 Im1 θ1) (hN : New a a1 w) (h : After P ω ρ s s2 a w Im θ K) : After P ω ρ s1 s2 a1 w1 Im1 θ1 K :=
 fun a' w' Im' θ' sim hE' hN' => h a' w' Im' θ' sim (hE.trans (hE'.mono (fun _ hx => Nat.le_trans hl.nx hx))) (hN.trans hN' hE.size)
def W (P : Program) (ρ : Option Nat) (m : Nat) (c : Code) (Q : Exit → Act → World → Prop) (a : Act) (w : World) : Prop :=
 match c with
 | .loop b => Code.roundsIn (FR ρ) 0 P b Q m a w
 | c => c.wpIn (FR ρ) 0 P Q a w
theorem W.wp {ρ : Option Nat} {m : Nat} {c : Code} {Q : Exit → Act → World → Prop} {a : Act} {w : World} (h : W P ρ m c Q a w) : c.wpIn (FR ρ) 0 P Q a w := by
 cases c with
 | loop b => exact wpIn_loop_rounds m h
 | _ => exact h
structure Comes (P : Program) (c : Code) (s : St) (e : Ex) (s2 : St) : Prop where
 later : Later s s2
 size : s2.size = s.size
 rd : s2.rd = s.rd
 wps : ∃ m, ∀ (ω : Nat → Value) (ρ : Option Nat) (Q : Exit → Act → World → Prop) (a : Act) (w : World) (Im : Nat → Prop) (θ : Th), Sim P ω ρ s a w Im θ → After P ω ρ s s2 a w Im θ (Q (exitOf e)) → W P ρ m c Q a w
theorem Comes.wp {c : Code} {s s2 : St} {e : Ex} (h : Comes P c s e s2) (ρ : Option Nat) (Q : Exit → Act → World → Prop) (a : Act) (w : World) (Im : Nat → Prop) (θ : Th) (sim : Sim P ω ρ s a w Im θ) (hA : After P ω ρ s s2 a w Im θ (Q (exitOf e))) : c.wpIn (FR ρ) 0 P Q a w := by
 obtain ⟨m, hm⟩ := h.wps
 exact (hm ω ρ Q a w Im θ sim hA).wp
def RcrOk {R D : Type} (P : Program) (den : R → Option D) (rec : Rcr R) : Prop :=
 ∀ (c : Code) (s : St) (k : Ex → St → R) (d : D), StOk s → den (rec c s k) = some d → ∃ e s2, StOk s2 ∧ Comes P c s e s2 ∧ den (k e s2) = some d
section
variable {R D : Type} {fl : R} {den : R → Option D} (hfl : den fl = none)
include hfl
theorem fl_no {d : D} (h : den fl = some d) : False := by rw [hfl] at h; cases h
theorem interp_run {h : Tr Chunk} {k : SV → List (Nat × Option Chunk) → Nat → List Nat → R} {d : D} : ∀ (m : OpM) (rs : List Nat), den (interpR fl h k m rs) = some d →
  ∃ r ups nx rs', mrun h.get m = some (r, ups, nx, rs') ∧ den (k r ups nx (rs ++ rs')) = some d
 | .done r ups nx, rs, hm => ⟨r, ups, nx, [], rfl, by simpa [interpR] using hm⟩
 | .get x f, rs, hm => by
  simp only [interpR] at hm
  cases hx : h.get x with
  | none => simp only [hx] at hm; exact (fl_no hfl hm).elim
  | some c =>
   simp only [hx] at hm
   obtain ⟨r, ups, nx, rs', h1, h2⟩ := interp_run (f c) _ hm
   exact ⟨r, ups, nx, x :: rs', by simp [mrun, hx, h1], by simpa using h2⟩
 | .ite b t e, rs, hm => by
  simp only [interpR] at hm
  cases b
  · simp only [cond_false] at hm
    obtain ⟨r, ups, nx, rs', h1, h2⟩ := interp_run e _ hm
    exact ⟨r, ups, nx, rs', by simp [mrun, h1], h2⟩
  · simp only [cond_true] at hm
    obtain ⟨r, ups, nx, rs', h1, h2⟩ := interp_run t _ hm
    exact ⟨r, ups, nx, rs', by simp [mrun, h1], h2⟩
 | .fail, rs, hm => (fl_no hfl hm).elim
omit hfl in
theorem dstOk_N {s : St} {d : Option Nat} (h : dstOk s d = true) : dstN s.size d := by
 cases d with
 | none => trivial
 | some d => simp only [dstOk] at h; rw [Nat.blt_eq] at h; exact h
omit hfl in
structure Alike (s s1 : St) : Prop where
 tmp : s1.tmp = s.tmp
 hp : s1.hp = s.hp
 nx : s1.nx = s.nx
 size : s1.size = s.size
 m : s1.m = s.m
 dirty : s1.dirty = s.dirty
 rd : s1.rd = s.rd
omit hfl in
theorem Alike.ok {s s1 : St} (h : Alike s s1) (hs : StOk s) : StOk s1 :=
 ⟨by rw [h.size]; exact hs.size, by rw [h.nx]; exact hs.nx, by rw [h.size, h.tmp]; exact hs.out, by rw [h.hp, h.nx]; exact hs.dom, by rw [h.nx, h.m]; exact hs.m⟩
omit hfl in
theorem Alike.sim {ρ : Option Nat} {s s1 : St} {a : Act} {w : World} {Im : Nat → Prop} {θ : Th} (h : Alike s s1) (sim : Sim P ω ρ s a w Im θ) : Sim P ω ρ s1 a w Im θ :=
 ⟨h.ok sim.ok, by rw [h.size, h.tmp, h.hp]; exact sim.sf, by rw [h.nx, h.hp]; exact sim.fr, by rw [h.rd]; exact sim.rd⟩
omit hfl in
theorem Alike.later {s s1 : St} (h : Alike s s1) : Later s s1 := Later.of h.m h.nx h.hp h.dirty
theorem guard_run {all : List Oper} {s : St} {k : St → Bool → R} {o : Oper} {d : D} (hs : s.size < 16000) (h : den (guardR fl all s k o.guard) = some d) :
  ∃ s1 go, Alike s s1 ∧ wantedT all s.size s.tmp o = some go ∧ den (k s1 go) = some d := by
 unfold guardR at h
 unfold wantedT
 have self : Alike s s := ⟨rfl, rfl, rfl, rfl, rfl, rfl, rfl⟩
 cases hg : o.guard with
 | none =>
  rw [hg] at h
  exact ⟨s, true, self, rfl, h⟩
 | some p =>
  obtain ⟨j, want⟩ := p
  rw [hg] at h
  simp only [nth?_eq] at h
  simp only []
  cases hj : all[j]? with
  | none => simp only [hj] at h; exact (fl_no hfl h).elim
  | some oj =>
   simp only [hj] at h ⊢
   cases hd : oj.dst with
   | none => simp only [hd] at h; exact (fl_no hfl h).elim
   | some d =>
    simp only [hd] at h ⊢
    split at h
    · rename_i b hb
      cases hlt : Nat.blt d s.size with
      | false => rw [hlt] at h; exact (fl_no hfl h).elim
      | true =>
       rw [hlt] at h
       have hdn : d < s.size := by rw [Nat.blt_eq] at hlt; exact hlt
       simp only [hdn, if_true, hb]
       have ht : ∀ c, c = b → (s.put (some d) (.bool c)).tmp = s.tmp := by
        intro c hc
        rw [tmp_put (show dstN s.size (some d) from hdn) hs]
        funext t
        by_cases e : t = d
        · subst e; simp [updT, hb, hc]
        · simp [updT, e]
       cases b
       · simp only [cond_true, cond_false] at h
         exact ⟨_, !want, ⟨ht false rfl, rfl, rfl, rfl, rfl, rfl, rfl⟩, by cases want <;> rfl, h⟩
       · simp only [cond_true] at h
         exact ⟨_, want, ⟨ht true rfl, rfl, rfl, rfl, rfl, rfl, rfl⟩, by cases want <;> rfl, h⟩
    · rename_i hb
      cases hlt : Nat.blt d s.size with
      | false => rw [hlt] at h; exact (fl_no hfl h).elim
      | true =>
       rw [hlt] at h
       have hdn : d < s.size := by rw [Nat.blt_eq] at hlt; exact hlt
       simp only [hdn, if_true, hb]
       simp only [cond_true] at h
       exact ⟨s, false, self, rfl, h⟩
    · exact (fl_no hfl h).elim
end
/- Updating a state. -/
theorem addDirty_spec (m : Nat) : ∀ (l : List (Nat × Option Chunk)) (d : List Nat), (∀ x ∈ d, x ∈ addDirty m l d) ∧ (∀ x ∈ addDirty m l d, x ∈ d ∨ x < m) ∧ (∀ x, x < m → x ∈ l.map (·.1) → x ∈ addDirty m l d) := by
 intro l
 induction l with
 | nil => intro d; exact ⟨fun x hx => hx, fun x hx => .inl hx, fun x _ hx => by cases hx⟩
 | cons p l ih =>
  obtain ⟨y, c⟩ := p
  intro d
  simp only [addDirty]
  obtain ⟨i1, i2, i3⟩ := ih (bif Nat.blt y m && !memN y d then y :: d else d)
  have hcase : ∀ x, x ∈ (bif Nat.blt y m && !memN y d then y :: d else d) ↔ x ∈ d ∨ (x = y ∧ y < m) := by
   intro x
   cases h1 : Nat.blt y m with
   | false =>
    have : ¬ y < m := by intro hh; rw [← Nat.blt_eq] at hh; rw [hh] at h1; cases h1
    simp [this]
   | true =>
    have hy : y < m := by rw [Nat.blt_eq] at h1; exact h1
    cases h2 : memN y d with
    | true =>
     have := (memN_iff y d).1 h2
     simp only [Bool.not_true, Bool.and_false, cond_false]
     constructor
     · exact fun h => .inl h
     · rintro (h | ⟨rfl, _⟩)
       · exact h
       · exact this
    | false => simp [hy, or_comm]
  refine ⟨fun x hx => i1 x ((hcase x).2 (.inl hx)), fun x hx => ?_, fun x hxm hx => ?_⟩
  · rcases i2 x hx with h3 | h3
    · rcases (hcase x).1 h3 with h4 | ⟨rfl, h4⟩
      · exact .inl h4
      · exact .inr h4
    · exact .inr h3
  · simp only [List.map_cons, List.mem_cons] at hx
    rcases hx with rfl | hx
    · exact i1 x ((hcase x).2 (.inr ⟨rfl, hxm⟩))
    · exact i3 x hxm hx
theorem upd_later {s : St} {ups : List (Nat × Option Chunk)} {nx : Nat} (hle : s.nx ≤ nx) (hk : ∀ p ∈ ups, p.1 < 1000000) : Later s (s.upd ups nx) := by
 obtain ⟨d1, d2, d3⟩ := addDirty_spec s.m ups s.dirty
 refine ⟨rfl, hle, fun x hx => ?_, d1, d2⟩
 show (upsTr ups s.hp).get x = _ ∨ x ∈ addDirty s.m ups s.dirty
 rw [upsTr_get _ _ hk]
 by_cases hxk : x ∈ ups.map (·.1)
 · exact .inr (d3 x hx hxk)
 · left; rw [updF_not hxk]
theorem put_hp (s : St) (d : Option Nat) (v : SV) : (s.put d v).hp = s.hp := by cases d <;> rfl
theorem put_nx (s : St) (d : Option Nat) (v : SV) : (s.put d v).nx = s.nx := by cases d <;> rfl
theorem put_m (s : St) (d : Option Nat) (v : SV) : (s.put d v).m = s.m := by cases d <;> rfl
theorem put_sz (s : St) (d : Option Nat) (v : SV) : (s.put d v).size = s.size := by cases d <;> rfl
theorem put_dirty (s : St) (d : Option Nat) (v : SV) : (s.put d v).dirty = s.dirty := by cases d <;> rfl
theorem put_rd (s : St) (d : Option Nat) (v : SV) : (s.put d v).rd = s.rd := by cases d <;> rfl
theorem put_ok {s : St} (hs : StOk s) {d : Option Nat} (hd : dstN s.size d) (v : SV) : StOk (s.put d v) := by
 refine ⟨by rw [put_sz]; exact hs.size, by rw [put_nx]; exact hs.nx, ?_, by rw [put_hp, put_nx]; exact hs.dom, by rw [put_nx, put_m]; exact hs.m⟩
 rw [put_sz, tmp_put hd hs.size]
 intro t ht
 cases d with
 | none => simpa [updT] using hs.out t ht
 | some d =>
  have : t ≠ d := by intro e; subst e; simp only [dstN] at hd; omega
  simp [updT, this, hs.out t ht]
theorem upd_ok {s : St} (hs : StOk s) {ups : List (Nat × Option Chunk)} {nx : Nat} (hle : s.nx ≤ nx) (hnx : nx < 1000000) (hk : ∀ p ∈ ups, p.1 < nx) : StOk (s.upd ups nx) := by
 refine ⟨hs.size, hnx, hs.out, ?_, Nat.le_trans hs.m hle⟩
 show ∀ x c, (upsTr ups s.hp).get x = some c → x < nx
 rw [upsTr_get _ _ (fun p hp => by have := hk p hp; omega)]
 intro x c hx
 rcases updF_mem hx with h3 | ⟨_, h3⟩
 · exact hk _ h3
 · have := hs.dom x c h3; omega
theorem frame_later (s s' : St) (t : Tr SV) (n : Nat) (r : Option Nat) (h : Later s s') : Later s { s' with tm := t, size := n, rd := r } := ⟨h.m, h.nx, h.same, h.up, h.low⟩
theorem argsTr_get : ∀ (args : List SV) (i : Nat) (t : Tr SV) (j : Nat), i + args.length < 16000 → (argsTr args i t).get j = if i ≤ j ∧ j < i + args.length then args[j - i]? else t.get j
 | [], i, t, j, _ => by
  have : ¬ (i ≤ j ∧ j < i + ([] : List SV).length) := by simp only [List.length_nil]; omega
  rw [if_neg this]; rfl
 | v :: vs, i, t, j, hl => by
  simp only [argsTr, List.length_cons] at hl ⊢
  rw [argsTr_get vs (i + 1) _ j (by omega)]
  rw [Tr.get_set 14 t i (some v) j (by omega)]
  by_cases h1 : i + 1 ≤ j ∧ j < i + 1 + vs.length
  · rw [if_pos h1, if_pos (by omega)]
    have : j - i = (j - (i + 1)) + 1 := by omega
    rw [this, List.getElem?_cons_succ]
  · rw [if_neg h1]
    by_cases h2 : j = i
    · subst h2
      rw [if_pos rfl, if_pos (by omega)]
      simp
    · rw [if_neg h2, if_neg (by omega)]
theorem args_tmp {args : List SV} (h : args.length < 16000) (s : St) (t : Nat) : ({ s with tm := argsTr args 0 .lf } : St).tmp t = match args[t]? with
  | some v => v
  | none => .junk := by
 simp only [St.tmp]
 rw [argsTr_get args 0 .lf t (by omega)]
 by_cases ht : t < args.length
 · rw [if_pos (by omega)]
   simp [ht]
 · rw [if_neg (by omega)]
   simp only [Tr.get_lf]
   rw [List.getElem?_eq_none (by omega)]
theorem enter_ok {s : St} (hs : StOk s) {args : List SV} {n : Nat} (h1 : args.length ≤ n) (h2 : n < 16000) : StOk { s with tm := argsTr args 0 .lf, size := n, rd := none } := by
 refine ⟨h2, hs.nx, fun t ht => ?_, hs.dom, hs.m⟩
 have ht' : n ≤ t := ht
 show ({ s with tm := argsTr args 0 .lf } : St).tmp t = _
 rw [args_tmp (by omega), List.getElem?_eq_none (by omega)]
theorem enter_sim {s : St} (hs : StOk s) {args : List SV} {us : List Value} {n : Nat} (h1 : args.length ≤ n) (h2 : n < 16000) {w : World} {Im : Nat → Prop} {θ : Th} (hr : HRel P ω w Im θ s.hp.get) (hf : Fr s.nx θ s.hp.get) (hl : LRel P ω w Im θ args us) :
  Sim P ω none { s with tm := argsTr args 0 .lf, size := n, rd := none } { tmps := us.toArray ++ Array.replicate (n - us.toArray.size) undef, defers := [] } w Im θ := by
 have hul : us.length = args.length := hl.len.symm
 refine ⟨enter_ok hs h1 h2, ⟨by simp; omega, fun t ht => ?_, (enter_ok hs h1 h2).out, Mk.nil, hr⟩, hf, .inl ⟨rfl, rfl⟩⟩
 show VRel P ω w Im θ (({ s with tm := argsTr args 0 .lf } : St).tmp t) _
 rw [args_tmp (by omega)]
 by_cases ht2 : t < args.length
 · have e1 : args[t]? = some args[t] := by simp [ht2]
   rw [e1]
   refine hl.at_ t _ _ e1 ?_
   have ht3 : t < us.length := by omega
   simp [Array.getD_eq_getD_getElem?, Array.getElem?_append, ht3]
 · rw [List.getElem?_eq_none (by omega)]
   exact .junk
end Go.Am
/- The abstract machine: calls, rounds, regions, code: what is carried out. -/
namespace Go.Am
variable {P : Program} {ω : Nat → Value}
theorem lowB_spec {m : Nat} : ∀ (l : List Nat), lowB m l = true → ∀ x ∈ l, x < m
 | [], _, _, h => by cases h
 | y :: l, h, x, hx => by
  simp only [lowB, Bool.and_eq_true] at h
  rcases List.mem_cons.1 hx with rfl | hx
  · have := h.1; rwa [Nat.blt_eq] at this
  · exact lowB_spec l h.2 x hx
/- The results. -/
def resSem (tmps : Array Value) : ResultVar → Sem Value
 | .tmp t => pure (tmps.getD t undef)
 | .cell p t => do loadVar t (← asAddr (tmps.getD p undef))
theorem results_eq (f : Func) (tmps : Array Value) : results f tmps = (do
  let vs ← f.results.mapM (resSem tmps)
  pure (if h : vs.size = 1 then vs[0] else .tuple vs)) := by
 unfold results
 congr
theorem run_resultS {s : St} {a : Act} {w : World} {Im : Nat → Prop} {θ : Th} (hS : SimF P ω s.size s.tmp s.hp.get a w Im θ) {r : ResultVar} {v : SV} (h : resultS P s r = some v) :
  ∃ u, (resSem a.tmps r).run P w = .ok u w ∧ VRel P ω w Im θ v u := by
 cases r with
 | tmp t =>
  simp only [resultS] at h
  cases hb : Nat.blt t s.size with
  | false => simp [hb] at h
  | true =>
   simp only [hb, cond_true, Option.some.injEq] at h
   subst h
   exact ⟨_, rfl, hS.tm t (by rwa [Nat.blt_eq] at hb)⟩
 | cell p t =>
  simp only [resultS] at h
  have hp := hS.eval (.tmp p)
  simp only [evT, Act.eval] at hp
  split at h
  · rename_i x off hx
    rw [hx] at hp
    simp only [resSem]
    generalize a.tmps.getD p undef = u at hp ⊢
    cases hp with
    | ptr hθ =>
     split at h
     · rename_i T vs hg
       obtain ⟨b', cs, fr, h1, h2, h3, h4⟩ := hS.hp.at_ x _ hg
       rw [hθ] at h1
       simp only [Option.some.injEq, Prod.mk.injEq] at h1
       obtain ⟨rfl, _⟩ := h1
       obtain ⟨u, hru, hvu⟩ := run_loadVar_rel h2 h4 h
       exact ⟨u, by simp [asAddr, hru], hvu⟩
     · cases h
  · cases h
theorem run_resultsS {s : St} {a : Act} {w : World} {Im : Nat → Prop} {θ : Th} (hS : SimF P ω s.size s.tmp s.hp.get a w Im θ) : ∀ (rs : List ResultVar) (vs : List SV), resultsS P s rs = some vs →
  ∃ us, (rs.mapM (resSem a.tmps)).run P w = .ok us w ∧ LRel P ω w Im θ vs us
 | [], vs, h => by simp [resultsS] at h; subst h; exact ⟨[], rfl, rfl, fun i v u hv _ => by simp at hv⟩
 | r :: rs, vs, h => by
  simp only [resultsS] at h
  cases hr : resultS P s r with
  | none => simp [hr] at h
  | some v =>
   cases hrs : resultsS P s rs with
   | none => simp [hr, hrs] at h
   | some vs' =>
    simp only [hr, hrs, Option.some.injEq] at h
    subst h
    obtain ⟨u, h1, h2⟩ := run_resultS hS hr
    obtain ⟨us, h3, h4⟩ := run_resultsS hS rs vs' hrs
    refine ⟨u :: us, ?_, by simp [h4.len], fun i v' u' hv hu => ?_⟩
    · rw [List.mapM_cons]
      simp only [Sem.run_bind, h1, h3, Result.andThen_ok, Sem.run_pure]
    · cases i with
      | zero => simp at hv hu; subst hv; subst hu; exact h2
      | succ i => exact h4.at_ i v' u' (by simpa using hv) (by simpa using hu)
theorem run_results {s : St} {a : Act} {w : World} {Im : Nat → Prop} {θ : Th} {f : Func} (hS : SimF P ω s.size s.tmp s.hp.get a w Im θ) {vs : List SV} (h : resultsS P s f.results.toList = some vs) :
  ∃ u, (results f a.tmps).run P w = .ok u w ∧ VRel P ω w Im θ (oneOrTup vs) u := by
 obtain ⟨us, h1, h2⟩ := run_resultsS hS _ _ h
 rw [results_eq]
 simp only [Sem.run_bind, Array.mapM_eq_mapM_toList, Sem.run_map, h1, Result.andThen_ok, Sem.run_pure]
 have hlen := h2.len
 match vs, us, hlen, h2 with
 | [], [], _, h2 => exact ⟨_, rfl, .tup rfl (fun i v u hv _ => by simp at hv)⟩
 | [v], [u], _, h2 => exact ⟨_, rfl, h2.at_ 0 v u rfl rfl⟩
 | v1 :: v2 :: vs, u1 :: u2 :: us, hl, h2 =>
  refine ⟨.tuple (u1 :: u2 :: us).toArray, ?_, .tup (by simpa using hl) (fun i v u hv hu => h2.at_ i v u hv (by simpa using hu))⟩
  simp
theorem body_calls {f : FuncId} {fn : Func} {c : Code} (hf : P.funcs[f]? = some fn) (hb : fn.body = some c) {s0 s2 : St} {e : Ex} (he : ∀ id, e ≠ .exit id) (hc : Comes P c s0 e s2) {us : List Value} {w : World} {Im : Nat → Prop} {θ : Th}
  (sim : Sim P ω none s0 { tmps := us.toArray ++ Array.replicate (fn.ntmps - us.toArray.size) undef, defers := [] } w Im θ) {vs : List SV} (hvs : resultsS P s2 fn.results.toList = some vs) {ρ : Option Nat} {R : Ending → World → Prop}
  (hR : ∀ u w' Im' θ', HRel P ω w' Im' θ' s2.hp.get → Fr s2.nx θ' s2.hp.get → Ext (fun x => s0.nx ≤ x) s0.hp.get w Im θ s2.hp.get w' Im' θ' → VRel P ω w' Im' θ' (oneOrTup vs) u → R (.returned u) w') : CallsIn (FR ρ) 0 P f us.toArray w R := by
 suffices h : CallsIn (FR none) 0 P f us.toArray w R by
  cases ρ with
  | none => exact h
  | some l => exact h
 refine callsIn_of_wp_marks hf hb trivial (hc.wp none _ _ w Im θ sim (fun a' w' Im' θ' sim' hE hN => ?_)) rfl
 have key : LeavesInM (FR none) 0 P fn a'.tmps R a'.defers .returning w' := by
  obtain ⟨rs, base, h1, hb, h2, h3⟩ := sim'.sf.df
  obtain ⟨rs', h4, h5⟩ := hN
  have hbase : base = [] := by
   refine List.eq_nil_iff_forall_not_mem.2 (fun d hd => ?_)
   have hm : d ∈ a'.defers := by rw [h1]; exact List.mem_append.2 (.inr hd)
   rw [h4] at hm
   simp only [List.append_nil, List.mem_map] at hm
   obtain ⟨q, _, e⟩ := hm
   exact hb d hd q e.symm
  subst hbase
  rw [List.append_nil] at h1
  have hge : ∀ r ∈ rs, w.heap.size ≤ r := by
   intro r hr
   have : mark r ∈ a'.defers := by rw [h1]; exact List.mem_map.2 ⟨r, hr, rfl⟩
   rw [h4] at this
   simp only [List.append_nil, List.mem_map] at this
   obtain ⟨q, hq, e⟩ := this
   simp only [mark, Deferred.mk.injEq, Target.collected.injEq, and_true] at e
   rw [← e]; exact h5 q hq
  rw [h1]
  refine leaves_marks rs w' h2 (fun r hr => (h3 r hr).1) (fun w3 g1 g2 g3 g4 g5 => ?_)
  have hI : ∀ b, Im' b → Im' b ∧ w3.heap[b]? = w'.heap[b]? := fun b hb => ⟨hb, g2 b (fun hr => (h3 b hr).2.1 hb)⟩
  have hH : HRel P ω w3 Im' θ' s2.hp.get := by
   refine ⟨fun x c hx => (sim'.sf.hp.at_ x c hx).mono hI (fun _ _ h => h) rfl (fun b N hb => g2 b (fun hr => (h3 b hr).2.2 x c N hx hb)), sim'.sf.hp.inj, fun x c b N hx hb => ?_, fun b hb => by rw [g1]; exact sim'.sf.hp.im b hb, sim'.sf.hp.gl.mono hI⟩
   rw [g1]; exact sim'.sf.hp.own x c b N hx hb
  have hS : SimF P ω s2.size s2.tmp s2.hp.get { a' with defers := [] } w3 Im' θ' :=
   ⟨sim'.sf.size, fun t ht => (sim'.sf.tm t ht).mono hI (fun _ _ h => h), sim'.sf.out, Mk.nil, hH⟩
  obtain ⟨u, hu1, hu2⟩ := run_results (f := fn) hS hvs
  refine ⟨u, hu1, hR u w3 Im' θ' hH sim'.fr ?_ hu2⟩
  refine ⟨hE.thOld, hE.thUp, hE.imUp, by rw [g1]; exact hE.size, fun b hb hno => ?_, hE.imNew, hE.ownNew, g3.trans hE.os, g4.trans hE.output, g5.trans hE.tape⟩
  rw [g2 b (fun hr => by have := hge b hr; omega)]
  exact hE.keep b hb hno
 cases e with
 | normal => exact key
 | ret => exact key
 | exit id => exact absurd rfl (he id)
theorem frame_sim {ρ : Option Nat} {s s2 : St} {a : Act} {w w' : World} {Im Im' : Nat → Prop} {θ θ' : Th} (sim : Sim P ω ρ s a w Im θ) (hs2 : StOk s2) (_ : Later s s2) (hH : HRel P ω w' Im' θ' s2.hp.get) (hF : Fr s2.nx θ' s2.hp.get)
  {new : Nat → Prop} (hE : Ext new s.hp.get w Im θ s2.hp.get w' Im' θ') : Sim P ω ρ { s2 with tm := s.tm, size := s.size, rd := s.rd } a w' Im' θ' := by
 have hm := hs2.m
 refine ⟨⟨sim.ok.size, hs2.nx, sim.ok.out, hs2.dom, hs2.m⟩, ⟨sim.sf.size, fun t ht => hE.val sim.sf.hp (sim.sf.tm t ht), sim.sf.out, sim.sf.df.step hE, hH⟩, hF, ?_⟩
 rcases sim.rd with h | ⟨y, b, N, h1, h2, h3⟩
 · exact .inl h
 · exact .inr ⟨y, b, N, h1, hE.thUp _ _ h2, h3⟩
section
variable {R D : Type} {fl : R} {den : R → Option D} (hfl : den fl = none) {rec : Rcr R} (hrec : RcrOk P den rec)
include hfl hrec
theorem callIn_run {f : Nat} {args : List SV} {s : St} {k : SV → St → R} {d : D} (hs : StOk s) (h : den (callIn fl P rec f args s k) = some d) :
  ∃ r s', StOk s' ∧ Later s s' ∧ s'.tm = s.tm ∧ s'.size = s.size ∧ s'.rd = s.rd ∧ den (k r s') = some d ∧ (∃ fn, P.funcs[f]? = some fn ∧ (fn.name == "runtime.NumGoroutine") = false ∧ fn.body.isNone = false) ∧
   ∀ (ω : Nat → Value) (ρ : Option Nat) (a : Act) (w : World) (Im : Nat → Prop) (θ : Th) (us : List Value) (R' : Ending → World → Prop), Sim P ω ρ s a w Im θ → LRel P ω w Im θ args us →
    (∀ u w' Im' θ', Sim P ω ρ s' a w' Im' θ' → Ext (fun x => s.nx ≤ x) s.hp.get w Im θ s'.hp.get w' Im' θ' → VRel P ω w' Im' θ' r u → R' (.returned u) w') → CallsIn (FR ρ) 0 P f us.toArray w R' := by
 unfold callIn at h
 cases hf : P.funcs[f]? with
 | none => rw [hf] at h; exact (fl_no hfl h).elim
 | some fn =>
  rw [hf] at h
  simp only [] at h
  cases hb : fn.body with
  | none => rw [hb] at h; exact (fl_no hfl h).elim
  | some c =>
   rw [hb] at h
   simp only [] at h
   cases hc : Nat.ble args.length fn.ntmps && Nat.blt fn.ntmps 16000 && !(fn.name == "runtime.NumGoroutine") with
   | false => rw [hc] at h; exact (fl_no hfl h).elim
   | true =>
    rw [hc] at h
    simp only [cond_true] at h
    simp only [Bool.and_eq_true, Bool.not_eq_true'] at hc
    obtain ⟨⟨c1, c2⟩, c3⟩ := hc
    have h1 : args.length ≤ fn.ntmps := by rwa [Nat.ble_eq] at c1
    have h2 : fn.ntmps < 16000 := by rwa [Nat.blt_eq] at c2
    obtain ⟨e, s2, hs2, hcm, h3⟩ := hrec _ _ _ _ (enter_ok hs h1 h2) h
    have he : ∀ id, e ≠ .exit id := by
     rintro id rfl
     exact fl_no hfl h3
    have h4 : den (match resultsS P s2 fn.results.toList with
     | some vs => k (oneOrTup vs) { s2 with tm := s.tm, size := s.size, rd := s.rd }
     | none => fl) = some d := by
     cases e with
     | exit id => exact absurd rfl (he id)
     | normal => exact h3
     | ret => exact h3
    cases hvs : resultsS P s2 fn.results.toList with
    | none => rw [hvs] at h4; exact (fl_no hfl h4).elim
    | some vs =>
     rw [hvs] at h4
     simp only [] at h4
     have hl : Later s s2 := ⟨hcm.later.m, hcm.later.nx, hcm.later.same, hcm.later.up, hcm.later.low⟩
     refine ⟨oneOrTup vs, { s2 with tm := s.tm, size := s.size, rd := s.rd }, ⟨hs.size, hs2.nx, hs.out, hs2.dom, hs2.m⟩, frame_later s s2 _ _ _ hl, rfl, rfl, rfl, h4, ⟨fn, rfl, c3, by rw [hb]; rfl⟩, ?_⟩
     intro ω ρ a w Im θ us R' sim hl' hR
     refine body_calls hf hb he hcm (enter_sim hs h1 h2 sim.sf.hp sim.fr hl') hvs (fun u w' Im' θ' hH hF hE hv => ?_)
     exact hR u w' Im' θ' (frame_sim sim hs2 hl hH hF hE) hE hv
end
end Go.Am
/- The abstract machine: a round of a range over a function. -/
namespace Go.Am
variable {P : Program} {ω : Nat → Value}
theorem listOfTr_get (s : St) : ∀ (n i j : Nat), (listOfTr s n i)[j]? = if j < n then some (s.tmp (i + j)) else none
 | 0, i, j => by simp [listOfTr]
 | n + 1, i, j => by
  cases j with
  | zero => simp [listOfTr]
  | succ j =>
   simp only [listOfTr, List.getElem?_cons_succ]
   rw [listOfTr_get s n (i + 1) j]
   have : i + 1 + j = i + (j + 1) := by omega
   rw [this]
   simp only [Nat.add_lt_add_iff_right]
theorem listOfTr_len (s : St) : ∀ (n i : Nat), (listOfTr s n i).length = n
 | 0, _ => rfl
 | n + 1, i => by simp [listOfTr, listOfTr_len s n (i + 1)]
theorem list_rel {s : St} {a : Act} {w : World} {Im : Nat → Prop} {θ : Th} {h : HpF} (hS : SimF P ω s.size s.tmp h a w Im θ) : LRel P ω w Im θ (listOfTr s s.size 0) a.tmps.toList := by
 refine ⟨by rw [listOfTr_len]; simp [hS.size], fun i v u hv hu => ?_⟩
 rw [listOfTr_get] at hv
 split at hv
 · rename_i hi
   simp only [Nat.zero_add, Option.some.injEq] at hv
   subst hv
   have := hS.tm i hi
   have e : a.tmps.getD i undef = u := by
    simp only [Array.getElem?_toList] at hu
    simp [Array.getD_eq_getD_getElem?, hu]
   rwa [e] at this
 · cases hv
def setL : List Nat → List Value → Array Value → Array Value
 | p :: ps, u :: us, a => setL ps us (a.setIfInBounds p u)
 | _, _, a => a
theorem setL_eq (ps : Array Nat) (us : Array Value) (a : Array Value) : (ps.zip us).foldl (fun tmps (t, a) => tmps.setIfInBounds t a) a = setL ps.toList us.toList a := by
 rw [← Array.foldl_toList]
 rw [Array.toList_zip]
 generalize ps.toList = l
 generalize us.toList = m
 induction l generalizing m a with
 | nil => simp [setL]
 | cons p l ih =>
  cases m with
  | nil => simp [setL]
  | cons u m => simp [setL, ih]
theorem setPs_rel {n : Nat} (hn : n < 16000) {w : World} {Im : Nat → Prop} {θ : Th} : ∀ (ps : List Nat) (vs : List SV) (us : List Value) (t : Tr SV) (a : Array Value), lowB n ps = true → ps.length = vs.length → LRel P ω w Im θ vs us →
  a.size = n → (∀ j, j < n → VRel P ω w Im θ (match t.get j with
   | some v => v
   | none => .junk) (a.getD j undef)) → (∀ j, n ≤ j → t.get j = none) →
  (setL ps us a).size = n ∧ (∀ j, j < n → VRel P ω w Im θ (match (setPs ps vs t).get j with
   | some v => v
   | none => .junk) ((setL ps us a).getD j undef)) ∧ ∀ j, n ≤ j → (setPs ps vs t).get j = none
 | [], vs, us, t, a, _, _, _, hs, h1, h2 => by
  have e1 : setPs [] vs t = t := by cases vs <;> rfl
  have e2 : setL [] us a = a := by cases us <;> rfl
  rw [e1, e2]
  exact ⟨hs, h1, h2⟩
 | p :: ps, [], us, t, a, _, hlen, _, _, _, _ => by simp at hlen
 | p :: ps, v :: vs, us, t, a, hlow, hlen, hl, hs, h1, h2 => by
  cases us with
  | nil => have := hl.len; simp at this
  | cons u us =>
   simp only [lowB, Bool.and_eq_true] at hlow
   have hp : p < n := by have := hlow.1; rwa [Nat.blt_eq] at this
   simp only [setPs, setL]
   refine setPs_rel hn ps vs us _ _ hlow.2 (by simpa using hlen) ⟨by have := hl.len; simpa using this, fun i x y hx hy => hl.at_ (i + 1) x y (by simpa using hx) (by simpa using hy)⟩ (by simpa using hs) (fun j hj => ?_) (fun j hj => ?_)
   · rw [Tr.get_set 14 t p (some v) j (by omega)]
     by_cases e : j = p
     · subst e
       have : j < a.size := by omega
       simp only [if_pos, Array.getD_eq_getD_getElem?, Array.getElem?_setIfInBounds, this, Option.getD_some]
       exact hl.at_ 0 v u rfl rfl
     · have := h1 j hj
       rw [if_neg e]
       have e2 : (a.setIfInBounds p u).getD j undef = a.getD j undef := by
        simp [Array.getD_eq_getD_getElem?, Ne.symm e]
       rw [e2]; exact this
   · rw [Tr.get_set 14 t p (some v) j (by omega), if_neg (by omega)]
     exact h2 j hj
theorem round_sim {s : St} (hs : StOk s) {x b N : Nat} {w : World} {Im : Nat → Prop} {θ : Th} (hr : HRel P ω w Im θ s.hp.get) (hf : Fr s.nx θ s.hp.get) (hθ : θ x = some (b, N)) {vs args : List SV} {us : List Value} {tmps : Array Value} {ps : Array Nat}
  (h1 : ps.size = args.length) (h2 : lowB vs.length ps.toList = true) (h3 : vs.length < 16000) (hv : LRel P ω w Im θ vs tmps.toList) (hl : LRel P ω w Im θ args us) :
  StOk { s with tm := setPs ps.toList args (argsTr vs 0 .lf), size := vs.length, rd := some x } ∧
  Sim P ω (some b) { s with tm := setPs ps.toList args (argsTr vs 0 .lf), size := vs.length, rd := some x } { tmps := (ps.zip us.toArray).foldl (fun tmps (t, a) => tmps.setIfInBounds t a) tmps, defers := [] } w Im θ := by
 have hsz : tmps.size = vs.length := by have := hv.len; simp at this; omega
 obtain ⟨k1, k2, k3⟩ := setPs_rel (P := P) h3 ps.toList args us (argsTr vs 0 .lf) tmps h2 (by simpa using h1) hl hsz (fun j hj => by
  rw [argsTr_get vs 0 .lf j (by omega), if_pos (by omega)]
  have e : vs[j - 0]? = some vs[j] := by simp [hj]
  rw [e]
  refine hv.at_ j _ _ (by simp [hj]) ?_
  have : j < tmps.size := by omega
  simp [Array.getD_eq_getD_getElem?, this]) (fun j hj => by
  rw [argsTr_get vs 0 .lf j (by omega), if_neg (by omega)]; rfl)
 have hok : StOk { s with tm := setPs ps.toList args (argsTr vs 0 .lf), size := vs.length, rd := some x } := by
  refine ⟨h3, hs.nx, fun t ht => ?_, hs.dom, hs.m⟩
  have ht' : vs.length ≤ t := ht
  simp only [St.tmp]
  rw [k3 t ht']
 refine ⟨hok, hok, ⟨?_, ?_, hok.out, Mk.nil, hr⟩, hf, .inr ⟨x, b, N, rfl, hθ, rfl⟩⟩
 · show ((ps.zip us.toArray).foldl (fun tmps (t, a) => tmps.setIfInBounds t a) tmps).size = _
   rw [setL_eq]; exact k1
 · intro t ht
   show VRel P ω w Im θ _ (((ps.zip us.toArray).foldl (fun tmps (t, a) => tmps.setIfInBounds t a) tmps).getD t undef)
   rw [setL_eq]
   exact k2 t ht
end Go.Am
/- The abstract machine: a round of a range over a function; operations one after the other. -/
namespace Go.Am
variable {P : Program} {ω : Nat → Value}
theorem setPs_out {n : Nat} (hn : n < 16000) : ∀ (ps : List Nat) (vs : List SV) (t : Tr SV), lowB n ps = true → (∀ j, n ≤ j → t.get j = none) → ∀ j, n ≤ j → (setPs ps vs t).get j = none
 | [], vs, t, _, h => by
  have e1 : setPs [] vs t = t := by cases vs <;> rfl
  rw [e1]; exact h
 | p :: ps, [], t, _, h => h
 | p :: ps, v :: vs, t, hl, h => by
  simp only [lowB, Bool.and_eq_true] at hl
  have hp : p < n := by have := hl.1; rwa [Nat.blt_eq] at this
  simp only [setPs]
  refine setPs_out hn ps vs _ hl.2 (fun j hj => ?_)
  rw [Tr.get_set 14 t p (some v) j (by omega), if_neg (by omega)]
  exact h j hj
theorem round_ok {s : St} (hs : StOk s) {x : Nat} {vs args : List SV} {ps : List Nat} (h2 : lowB vs.length ps = true) (h3 : vs.length < 16000) : StOk { s with tm := setPs ps args (argsTr vs 0 .lf), size := vs.length, rd := some x } := by
 refine ⟨h3, hs.nx, fun t ht => ?_, hs.dom, hs.m⟩
 have ht' : vs.length ≤ t := ht
 simp only [St.tmp]
 rw [setPs_out h3 ps args _ h2 (fun j hj => by rw [argsTr_get vs 0 .lf j (by omega), if_neg (by omega)]; rfl) t ht']
theorem turn_ok {s : St} {x : Nat} {c : Chunk} (c' : Option Chunk) (hx : s.hp.get x = some c) (hs : StOk s) :
  StOk (s.upd [(x, c')] s.nx) ∧ Later s (s.upd [(x, c')] s.nx) ∧ (s.upd [(x, c')] s.nx).hp.get = updF [(x, c')] s.hp.get := by
 have hlt := hs.dom x _ hx
 have hk : ∀ p ∈ [(x, c')], p.1 < s.nx := by
  intro p hp
  simp only [List.mem_singleton] at hp
  subst hp; exact hlt
 exact ⟨upd_ok hs (Nat.le_refl _) hs.nx hk, upd_later (Nat.le_refl _) (fun p hp => by have := hk p hp; have := hs.nx; omega), upsTr_get _ _ (fun p hp => by have := hk p hp; have := hs.nx; omega)⟩
theorem Sim.turn {ρ : Option Nat} {s : St} {a : Act} {w w' : World} {Im : Nat → Prop} {θ : Th} (sim : Sim P ω ρ s a w Im θ) {x : Nat} {c : Chunk} {c' : Option Chunk} (hx : s.hp.get x = some c)
  (hE : Ext (fun _ => False) s.hp.get w Im θ (updF [(x, c')] s.hp.get) w' Im θ) (hH : HRel P ω w' Im θ (updF [(x, c')] s.hp.get)) : Sim P ω ρ (s.upd [(x, c')] s.nx) a w' Im θ ∧ Ext (fun x => s.nx ≤ x) s.hp.get w Im θ (s.upd [(x, c')] s.nx).hp.get w' Im θ := by
 obtain ⟨h1, h2, h3⟩ := turn_ok c' hx sim.ok
 have hlt := sim.ok.dom x _ hx
 refine ⟨⟨h1, ?_, ?_, sim.rd⟩, by rw [h3]; exact hE.mono (fun _ h => h.elim)⟩
 · have := sim.sf.step (dst := none) trivial hE (VRel'.junk (u := undef)) hH
   rw [h3]
   exact this
 · rw [h3]
   intro y hy
   have hy' : s.nx ≤ y := hy
   obtain ⟨g1, g2⟩ := sim.fr y hy'
   refine ⟨g1, ?_⟩
   have : ¬ y = x := by omega
   simp [updF, this, g2]
section
variable {R D : Type} {fl : R} {den : R → Option D} (hfl : den fl = none) {rec : Rcr R} (hrec : RcrOk P den rec)
include hfl hrec
theorem roundIn_run {x : Nat} {args : List SV} {s : St} {k : Bool → St → R} {d : D} (hs : StOk s) (h : den (roundIn fl rec x args s k) = some d) :
  ∃ r s', StOk s' ∧ Later s s' ∧ s'.tm = s.tm ∧ s'.size = s.size ∧ s'.rd = s.rd ∧ den (k r s') = some d ∧
   ∀ (ω : Nat → Value) (ρ : Option Nat) (a : Act) (w : World) (Im : Nat → Prop) (θ : Th) (us : List Value) (b N : Nat) (R' : Ending → World → Prop), Sim P ω ρ s a w Im θ → LRel P ω w Im θ args us → θ x = some (b, N) →
    (∀ w' Im' θ', Sim P ω ρ s' a w' Im' θ' → Ext (fun x => s.nx ≤ x) s.hp.get w Im θ s'.hp.get w' Im' θ' → R' (.returned (.bool r)) w') →
    ∃ lp : Loop, w.heap[b]? = some (.loop lp) ∧ us.length = lp.params.size ∧ RoundIn (FR ρ) 0 P b lp.fn ((lp.params.zip us.toArray).foldl (fun tmps (t, a) => tmps.setIfInBounds t a) lp.tmps) lp.assign lp.body w R' := by
 unfold roundIn at h
 split at h
 case h_2 => exact (fl_no hfl h).elim
 rename_i vs ps asg bdy hx
 cases hc : Nat.beq ps.size args.length && lowB vs.length ps.toList && Nat.blt vs.length 16000 with
 | false => rw [hc] at h; exact (fl_no hfl h).elim
 | true =>
  rw [hc] at h
  simp only [cond_true] at h
  simp only [Bool.and_eq_true] at hc
  obtain ⟨⟨c1, c2⟩, c3⟩ := hc
  have h1 : ps.size = args.length := Nat.eq_of_beq_eq_true c1
  have h3 : vs.length < 16000 := by rwa [Nat.blt_eq] at c3
  obtain ⟨e, s1, hs1, hcA, h4⟩ := hrec _ _ _ _ (round_ok hs (x := x) (args := args) c2 h3) h
  cases e with
  | exit id => exact (fl_no hfl h4).elim
  | ret => exact (fl_no hfl h4).elim
  | normal =>
   simp only [] at h4
   split at h4
   case h_2 => exact (fl_no hfl h4).elim
   rename_i vs1 ps1 asg1 bdy1 hx1
   obtain ⟨o1, l1, g1⟩ := turn_ok (some (.loopr .busy vs1 ps1 asg1 bdy1)) hx1 hs1
   obtain ⟨e2, s2, hs2, hcB, h5⟩ := hrec _ _ _ _ o1 h4
   split at h5
   case h_2 => exact (fl_no hfl h5).elim
   rename_i vs2 ps2 asg2 bdy2 hx2
   obtain ⟨o2, l2, g2⟩ := turn_ok (some (.loopr (endSt e2) vs2 ps2 asg2 bdy2)) hx2 hs2
   have lA : Later s s1 := ⟨hcA.later.m, hcA.later.nx, hcA.later.same, hcA.later.up, hcA.later.low⟩
   have lAll : Later s (s2.upd [(x, some (.loopr (endSt e2) vs2 ps2 asg2 bdy2))] s2.nx) := ((lA.trans l1).trans hcB.later).trans l2
   refine ⟨isNormal e2, { s2.upd [(x, some (.loopr (endSt e2) vs2 ps2 asg2 bdy2))] s2.nx with tm := s.tm, size := s.size, rd := s.rd }, ⟨hs.size, o2.nx, hs.out, o2.dom, o2.m⟩, frame_later s _ _ _ _ lAll, rfl, rfl, rfl, h5, ?_⟩
   intro ω ρ a w Im θ us b N R' sim hl hθ hR
   obtain ⟨lp, hw, e1, e2', e3, e4, hv, -⟩ := put_loop (st' := .busy) sim.sf.hp hx hθ
   refine ⟨lp, hw, by rw [e1, h1, hl.len], ?_⟩
   rw [e1, e2', e3]
   have simA := (round_sim hs sim.sf.hp sim.fr hθ h1 c2 h3 hv hl).2
   refine roundIn_of_wpIn (FR_fn ρ _) ?_
   show asg.wpIn (FR (some b)) 0 P _ _ w
   refine hcA.wp (some b) _ _ w Im θ simA (fun a1 w1 Im1 θ1 sim1 hE1 _ => ?_)
   have hθ1 : θ1 x = some (b, N) := hE1.thUp _ _ hθ
   obtain ⟨lp1, hw1, -, -, -, f4, -, hput1⟩ := put_loop (st' := .busy) sim1.sf.hp hx1 hθ1
   obtain ⟨hEb, hHb⟩ := hput1 .busy none ⟨rfl, rfl⟩
   have hlp : ({ lp1 with state := .busy, pending := none } : Loop) = { lp1 with state := .busy } := by
    have := f4.2
    rw [← this]
   rw [hlp] at hEb hHb
   obtain ⟨simB, hEB⟩ := sim1.turn hx1 hEb hHb
   refine ⟨_, run_beginRound hw1 f4.1, ?_⟩
   show bdy.wpIn (FR (some b)) 0 P _ _ _
   refine hcB.wp (some b) _ _ _ _ _ simB (fun a2 w2 Im2 θ2 sim2 hE2 _ => ?_)
   have hθ2 : θ2 x = some (b, N) := hE2.thUp _ _ hθ1
   obtain ⟨lp2, hw2, -, -, -, -, -, hput2⟩ := put_loop (st' := endSt e2) sim2.sf.hp hx2 hθ2
   have fin : ∀ (st : LoopState) (pe : Option Code), stRel (endSt e2) st pe → R' (.returned (.bool (isNormal e2))) (w2.putObj b (.loop { lp2 with state := st, pending := pe })) := by
    intro st pe hst
    obtain ⟨hEc, hHc⟩ := hput2 st pe hst
    obtain ⟨simC, hEC⟩ := sim2.turn hx2 hEc hHc
    have hE : Ext (fun x => s.nx ≤ x) s.hp.get w Im θ (s2.upd [(x, some (.loopr (endSt e2) vs2 ps2 asg2 bdy2))] s2.nx).hp.get (w2.putObj b (.loop { lp2 with state := st, pending := pe })) Im2 θ2 := by
     have m1 : ∀ y, s1.nx ≤ y → s.nx ≤ y := fun y hy => Nat.le_trans lA.nx hy
     have m2 : ∀ y, s2.nx ≤ y → s.nx ≤ y := fun y hy => Nat.le_trans lAll.nx hy
     exact ((hE1.trans (hEB.mono m1)).trans (hE2.mono m1)).trans (hEC.mono m2)
    exact hR _ Im2 θ2 (frame_sim sim o2 lAll simC.sf.hp simC.fr hE) hE
   cases e2 with
   | normal =>
    exact ⟨_, _, run_endRound none hw2, fin .ready none ⟨rfl, rfl⟩⟩
   | ret =>
    exact ⟨_, _, run_endRound (some .ret) hw2, fin .done (some .ret) ⟨rfl, rfl, by simp⟩⟩
   | exit id =>
    exact ⟨_, _, run_endRound (some (.exit id)) hw2, fin .done (some (.exit id)) ⟨rfl, rfl, by simp⟩⟩
end
end Go.Am
/- The abstract machine: operations one after the other, regions, code. -/
namespace Go.Am
variable {P : Program} {ω : Nat → Value}
theorem args_rel {s : St} {a : Act} {w : World} {Im : Nat → Prop} {θ : Th} (hS : SimF P ω s.size s.tmp s.hp.get a w Im θ) (l : Array Operand) : LRel P ω w Im θ (l.toList.map s.ev) (l.map a.eval).toList := by
 refine ⟨by simp, fun i v u hv hu => ?_⟩
 simp only [List.getElem?_map, Array.getElem?_toList, Option.map_eq_some_iff] at hv
 obtain ⟨c, hc, rfl⟩ := hv
 simp only [Array.toList_map, List.getElem?_map, Array.getElem?_toList, hc, Option.map_some, Option.some.injEq] at hu
 subst hu
 rw [evT_ev]
 exact hS.eval c
theorem put_sim {ρ : Option Nat} {s : St} {a : Act} {w : World} {Im : Nat → Prop} {θ : Th} (sim : Sim P ω ρ s a w Im θ) {dst : Option Nat} (hd : dstN s.size dst) {r : SV} {v : Value} (hv : VRel P ω w Im θ r v) : Sim P ω ρ (s.put dst r) (a.put dst v) w Im θ := by
 refine ⟨put_ok sim.ok hd r, ?_, by rw [put_nx, put_hp]; exact sim.fr, by rw [put_rd]; exact sim.rd⟩
 rw [put_sz, put_hp, tmp_put hd sim.ok.size]
 exact sim.sf.step hd (Ext.refl (fun _ => False)) hv sim.sf.hp
theorem put_later (s : St) (d : Option Nat) (v : SV) : Later s (s.put d v) := Later.of (put_m s d v) (put_nx s d v) (put_hp s d v) (put_dirty s d v)
section
variable {R D : Type} {fl : R} {den : R → Option D} (hfl : den fl = none) {rec : Rcr R} (hrec : RcrOk P den rec) {κ : Nat → Option CSumm} {ι : Nat → Bool} (hκ : KOk P κ)
include hfl hrec hκ
theorem step_run {o : Oper} {s : St} {k : St → R} {d : D} (hs : StOk s) (hd : dstN s.size o.dst) (h : den (stepR fl P κ ι rec o s k) = some d) :
  ∃ s', StOk s' ∧ Later s s' ∧ s'.size = s.size ∧ s'.rd = s.rd ∧ den (k s') = some d ∧
   ∀ (ω : Nat → Value) (ρ : Option Nat) (K : Act → World → Prop) (Q : Exit → Act → World → Prop) (a : Act) (w : World) (Im : Nat → Prop) (θ : Th), Sim P ω ρ s a w Im θ → After P ω ρ s s' a w Im θ K → o.wpIn (FR ρ) 0 P a w K Q := by
 unfold stepR at h
 split at h
 · -- plain
   obtain ⟨r, ups, nx, rs', hm, h2⟩ := interp_run hfl _ _ h
   cases hb : Nat.blt nx 1000000 with
   | false => rw [hb] at h2; exact (fl_no hfl h2).elim
   | true =>
    rw [hb] at h2
    simp only [cond_true] at h2
    have hnx : nx < 1000000 := by rw [Nat.blt_eq] at hb; exact hb
    rw [evT_ev] at hm
    obtain ⟨hle, hkeys⟩ := opM_wf hm
    have hk : ∀ p ∈ ups, p.1 < nx := by
     intro p hp
     rcases hkeys p hp with h3 | h3
     · obtain ⟨c, hc⟩ := mrun_reads _ _ hm p.1 h3
       have := hs.dom _ c hc; omega
     · exact h3.2
    have hk2 : ∀ p ∈ ups, p.1 < 1000000 := fun p hp => by have := hk p hp; omega
    have ou := upd_ok hs hle hnx hk
    have hhp : (s.upd ups nx).hp.get = updF ups s.hp.get := upsTr_get _ _ hk2
    refine ⟨_, put_ok ou hd r, (upd_later hle hk2).trans (put_later _ _ _), by rw [put_sz]; rfl, by rw [put_rd]; rfl, h2, ?_⟩
    intro ω ρ K Q a w Im θ sim hA
    refine op_good hκ sim.sf.hp (fun x _ => sim.sf.eval x) (fun x h1 _ => sim.fr x h1) hm ρ K Q (fun v w' Im' θ' hE hv hH => ?_)
    have hE' : Ext (fun x => s.nx ≤ x) s.hp.get w Im θ (updF ups s.hp.get) w' Im' θ' := hE.mono (fun x hx => hx.1)
    refine hA _ w' Im' θ' ⟨put_ok ou hd r, ?_, ?_, ?_⟩ ?_ (New.refl (put_defers _ _ _))
    · rw [put_sz, put_hp, hhp, tmp_put (s := s.upd ups nx) hd ou.size]
      exact sim.sf.step hd hE hv hH
    · rw [put_nx, put_hp, hhp]
      exact sim.fr.step hle hkeys (mrun_reads _ _ hm) hE
    · rw [put_rd]
      rcases sim.rd with g | ⟨y, b, N, g1, g2, g3⟩
      · exact .inl g
      · exact .inr ⟨y, b, N, g1, hE.thUp _ _ g2, g3⟩
    · rw [put_hp, hhp]; exact hE'
 · -- a call
   rename_i f args hck
   obtain ⟨r, s1, hs1, hl1, e1, e2, e3, h2, ⟨fn, hfn, hn1, hn2⟩, hw⟩ := callIn_run hfl hrec hs h
   have hd1 : dstN s1.size o.dst := by rw [e2]; exact hd
   refine ⟨_, put_ok hs1 hd1 r, hl1.trans (put_later _ _ _), by rw [put_sz, e2], by rw [put_rd, e3], h2, ?_⟩
   intro ω ρ K Q a w Im θ sim hA
   obtain ⟨dst, op, type, pos, after, guard⟩ := o
   unfold callKind at hck
   simp only at hck hd hA hd1
   split at hck
   case h_2 => cases hck
   rename_i c
   split at hck
   case h_3 => cases hck
   case h_2 =>
    rename_i ro m hcal
    split at hck
    case h_2 => cases hck
    rename_i t v hev
    split at hck
    case h_2 => cases hck
    rename_i g hmeth
    cases hi : ι g with
    | false => rw [hi] at hck; cases hck
    | true =>
     rw [hi] at hck
     simp only [cond_true, CallKind.fn.injEq] at hck
     obtain ⟨rfl, rfl⟩ := hck
     obtain ⟨callee, cargs, argTypes⟩ := c
     simp only at hcal
     subst hcal
     have hf := sim.sf.eval ro
     rw [← evT_ev, hev] at hf
     generalize hu : a.eval ro = u at hf
     cases hf with
     | iface hv =>
      rename_i u'
      have hl : LRel P ω w Im θ (v :: cargs.toList.map s.ev) (u' :: (cargs.map a.eval).toList) := by
       refine ⟨by simp, fun i x y hx hy => ?_⟩
       cases i with
       | zero => cases hx; cases hy; exact hv
       | succ i => exact (args_rel sim.sf cargs).at_ i x y hx hy
      have hrun : (execOp a.eval { dst := dst, op := .call { callee := .invoke ro m, args := cargs, argTypes := argTypes }, type := type, pos := pos, after := after, guard := guard }).run P w = .ok (.enter g (u' :: (cargs.map a.eval).toList).toArray) w := by
       have e : (u' :: (cargs.map a.eval).toList).toArray = #[u'] ++ cargs.map a.eval := by
        apply Array.ext'
        simp
       rw [e]
       have hi := run_invoke hmeth hfn hn1 hn2 u' (cargs.map a.eval) w
       simp only [execOp, resolve, hu, pure_bind]
       exact hi
      refine ⟨fun f _ => FR_fn ρ f, ?_⟩
      rw [Oper.semAt_eq _ _ _ (fun c hc => by cases hc), hrun, Oper.uponIn_enter]
      refine ⟨FR_depth1 ρ, ?_⟩
      refine hw _ ρ a w Im θ _ _ sim hl (fun v w' Im' θ' sim' hE hv => ?_)
      exact hA _ w' Im' θ' (put_sim sim' hd1 hv) (by rw [put_hp]; exact hE) (New.refl (put_defers _ _ _))
   rename_i fo hcal
   split at hck
   case h_1 => cases hck
   case h_3 => cases hck
   rename_i g first caps hev
   cases hi : ι g with
   | false => rw [hi] at hck; cases hck
   | true =>
    rw [hi] at hck
    simp only [cond_true, CallKind.fn.injEq] at hck
    obtain ⟨rfl, rfl⟩ := hck
    obtain ⟨callee, cargs, argTypes⟩ := c
    simp only at hcal
    subst hcal
    have hf := sim.sf.eval fo
    rw [← evT_ev, hev] at hf
    generalize hu : a.eval fo = u at hf
    cases hf with
    | fn h1 h2 h3 h4 =>
     rename_i us vs
     have hl : LRel P ω w Im θ (first ++ (cargs.toList.map s.ev ++ caps)) (us.toList ++ ((cargs.map a.eval).toList ++ vs.toList)) :=
      LRel.append ⟨by simpa using h1, fun i v u hv hu => h3 i v u hv (by simpa using hu)⟩ (LRel.append (args_rel sim.sf cargs) ⟨by simpa using h2, fun i v u hv hu => h4 i v u hv (by simpa using hu)⟩)
     have hrun : (execOp a.eval { dst := dst, op := .call { callee := .value fo, args := cargs, argTypes := argTypes }, type := type, pos := pos, after := after, guard := guard }).run P w = .ok (.enter g (us.toList ++ ((cargs.map a.eval).toList ++ vs.toList)).toArray) w := by
      have e : (us.toList ++ ((cargs.map a.eval).toList ++ vs.toList)).toArray = us ++ cargs.map a.eval ++ vs := by
       apply Array.ext'
       simp
      rw [e]
      have hn1' : ¬ fn.name = "runtime.NumGoroutine" := by simpa using hn1
      have hn2' : ¬ fn.body = none := by intro hh; simp [hh] at hn2
      simp [execOp, resolve, hu, Deferred.ofValue, invoke, callFunc, hfn, hn1', hn2']
     refine ⟨fun f _ => FR_fn ρ f, ?_⟩
     rw [Oper.semAt_eq _ _ _ (fun c hc => by cases hc), hrun, Oper.uponIn_enter]
     refine ⟨FR_depth1 ρ, ?_⟩
     refine hw _ ρ a w Im θ _ _ sim hl (fun v w' Im' θ' sim' hE hv => ?_)
     exact hA _ w' Im' θ' (put_sim sim' hd1 hv) (by rw [put_hp]; exact hE) (New.refl (put_defers _ _ _))
 · -- a round
   rename_i x args hck
   obtain ⟨r, s1, hs1, hl1, e1, e2, e3, h2, hw⟩ := roundIn_run hfl hrec hs h
   have hd1 : dstN s1.size o.dst := by rw [e2]; exact hd
   refine ⟨_, put_ok hs1 hd1 (.bool r), hl1.trans (put_later _ _ _), by rw [put_sz, e2], by rw [put_rd, e3], h2, ?_⟩
   intro ω ρ K Q a w Im θ sim hA
   obtain ⟨dst, op, type, pos, after, guard⟩ := o
   unfold callKind at hck
   simp only at hck hd hA hd1
   split at hck
   case h_2 => cases hck
   rename_i c
   split at hck
   case h_3 => cases hck
   case h_2 =>
    split at hck
    case h_2 => cases hck
    split at hck
    case h_2 => cases hck
    rename_i g hmeth
    cases hi : ι g <;> rw [hi] at hck <;> cases hck
   rename_i fo hcal
   split at hck
   case h_3 => cases hck
   case h_2 =>
    rename_i g first caps hev
    cases hi : ι g <;> rw [hi] at hck <;> cases hck
   rename_i x' hev
   simp only [CallKind.yl.injEq] at hck
   obtain ⟨rfl, rfl⟩ := hck
   obtain ⟨callee, cargs, argTypes⟩ := c
   simp only at hcal
   subst hcal
   have hf := sim.sf.eval fo
   rw [← evT_ev, hev] at hf
   generalize hu : a.eval fo = u at hf
   cases hf with
   | yl hθ =>
    rename_i b N
    obtain ⟨lp, hlp, hsz, hround⟩ := hw _ ρ a w Im θ (cargs.map a.eval).toList b N (fun
     | .returned v, w'' => K (a.put dst v) w''
     | .panicked chain, w'' => Q (.panic chain) a w''
     | .outgrown, _ => LetsOut Q) sim (args_rel sim.sf cargs) hθ (fun w' Im' θ' sim' hE => hA _ w' Im' θ' (put_sim sim' hd1 .bool) (by rw [put_hp]; exact hE) (New.refl (put_defers _ _ _)))
    have hrun : (execOp a.eval { dst := dst, op := .call { callee := .value fo, args := cargs, argTypes := argTypes }, type := type, pos := pos, after := after, guard := guard }).run P w =
      .ok (.round b lp.fn ((lp.params.zip (cargs.map a.eval)).foldl (fun tmps (t, a) => tmps.setIfInBounds t a) lp.tmps) lp.assign lp.body) w := by
     have hy := run_yield (P := P) (args := cargs.map a.eval) hlp (by simpa using hsz)
     simp [execOp, resolve, hu, Deferred.ofValue, invoke, hy]
    refine ⟨fun f _ => FR_fn ρ f, ?_⟩
    rw [Oper.semAt_eq _ _ _ (fun c hc => by cases hc), hrun, Oper.uponIn_round]
    refine ⟨FR_depth1 ρ, ?_⟩
    have e : ((cargs.map a.eval).toList).toArray = cargs.map a.eval := Array.toArray_toList ..
    rw [e] at hround
    exact hround
end
end Go.Am
/- The abstract machine: regions and code: what is carried out is right. -/
namespace Go.Am
variable {P : Program} {ω : Nat → Value}
section
variable {R D : Type} {fl : R} {den : R → Option D} (hfl : den fl = none) {rec : Rcr R} (hrec : RcrOk P den rec) {κ : Nat → Option CSumm} {ι : Nat → Bool} (hκ : KOk P κ)
include hfl hrec hκ
theorem opsQ_run {all : List Oper} {k : St → R} {d : D} : ∀ (os : List Oper) (i : Nat) (s : St), all.drop i = os → StOk s → den (opsQ fl P κ ι rec all k os s) = some d →
  ∃ s', StOk s' ∧ Later s s' ∧ s'.size = s.size ∧ s'.rd = s.rd ∧ den (k s') = some d ∧
   ∀ (ω : Nat → Value) (ρ : Option Nat) (Q : Exit → Act → World → Prop) (a : Act) (w : World) (Im : Nat → Prop) (θ : Th), Sim P ω ρ s a w Im θ → After P ω ρ s s' a w Im θ (Q .normal) → wpOpsIn (FR ρ) 0 P all.toArray Q (List.range' i os.length) a w
 | [], i, s, _, hs, h => ⟨s, hs, Later.refl s, rfl, rfl, h, fun ω ρ Q a w Im θ sim hA => hA a w Im θ sim (Ext.refl _) (New.refl rfl)⟩
 | o :: os, i, s, hall, hs, h => by
  simp only [opsQ] at h
  have ho : all[i]? = some o := by
   have := congrArg (·[0]?) hall
   simpa using this
  have hall' : all.drop (i + 1) = os := by
   have := congrArg List.tail hall
   simpa using this
  cases hd : dstOk s o.dst with
  | false => rw [hd] at h; exact (fl_no hfl h).elim
  | true =>
   rw [hd] at h
   simp only [cond_true] at h
   have hdN := dstOk_N hd
   obtain ⟨s1, go, hal, hw, h1⟩ := guard_run hfl hs.size h
   have hs1 := hal.ok hs
   have hd1 : dstN s1.size o.dst := by rw [hal.size]; exact hdN
   cases go with
   | true =>
    simp only [cond_true] at h1
    obtain ⟨s2, hs2, hl2, z2, r2, h2, hwp⟩ := step_run hfl hrec hκ hs1 hd1 h1
    obtain ⟨s3, hs3, hl3, z3, r3, h3, hwp3⟩ := opsQ_run os (i + 1) s2 hall' hs2 h2
    refine ⟨s3, hs3, (hal.later.trans hl2).trans hl3, by rw [z3, z2, hal.size], by rw [r3, r2, hal.rd], h3, fun ω ρ Q a w Im θ sim hA => ?_⟩
    simp only [List.length_cons, List.range'_succ, wpOpsIn, List.getElem?_toArray, ho]
    rw [wanted_eq sim.sf hw]
    simp only [if_true]
    have hA1 : After P ω ρ s1 s3 a w Im θ (Q .normal) := After.trans hal.later (by rw [hal.hp]; exact Ext.refl _) (New.refl rfl) hA
    refine hwp ω ρ _ Q a w Im θ (hal.sim sim) (fun a' w' Im' θ' sim' hE hN => ?_)
    exact hwp3 ω ρ Q a' w' Im' θ' sim' (After.trans hl2 hE hN hA1)
   | false =>
    simp only [cond_false] at h1
    obtain ⟨s3, hs3, hl3, z3, r3, h3, hwp3⟩ := opsQ_run os (i + 1) _ hall' (put_ok hs1 hd1 (.tup [])) h1
    refine ⟨s3, hs3, (hal.later.trans (put_later _ _ _)).trans hl3, by rw [z3, put_sz, hal.size], by rw [r3, put_rd, hal.rd], h3, fun ω ρ Q a w Im θ sim hA => ?_⟩
    simp only [List.length_cons, List.range'_succ, wpOpsIn, List.getElem?_toArray, ho]
    rw [wanted_eq sim.sf hw]
    simp only [Bool.false_eq_true, if_false]
    refine ⟨fun f _ => FR_fn ρ f, ?_⟩
    refine hwp3 ω ρ Q _ w Im θ (put_sim (hal.sim sim) hd1 (.tup rfl (fun i v u hv _ => by simp at hv))) ?_
    exact After.trans (hal.later.trans (put_later _ _ _)) (by rw [put_hp, hal.hp]; exact Ext.refl _) (New.refl (put_defers _ _ _)) hA
omit hrec hκ in
theorem opsR_run {all : List Oper} {k : St → List Foot → R} {d : D} : ∀ (os : List Oper) (i : Nat) (s : St) (acc : List Foot), StOk s → den (opsR fl P κ all k os i s acc) = some d →
  ∃ recs s', Txt P κ all s.size os s.tmp s.hp.get s.nx recs s'.tmp s'.hp.get s'.nx ∧ StOk s' ∧ s'.size = s.size ∧ s'.rd = s.rd ∧ Later s s' ∧ den (k s' (feet i recs acc)) = some d
 | [], i, s, acc, hs, h => ⟨[], s, .nil, hs, rfl, rfl, Later.refl s, h⟩
 | o :: os, i, s, acc, hs, h => by
  simp only [opsR] at h
  cases hd : dstOk s o.dst with
  | false => rw [hd] at h; exact (fl_no hfl h).elim
  | true =>
   rw [hd] at h
   simp only [cond_true] at h
   have hdN := dstOk_N hd
   obtain ⟨s1, go, hal, hw, h1⟩ := guard_run hfl hs.size h
   have hs1 := hal.ok hs
   have hd1 : dstN s1.size o.dst := by rw [hal.size]; exact hdN
   cases go with
   | true =>
    simp only [cond_true] at h1
    obtain ⟨r, ups, nx, rs', hm, h2⟩ := interp_run hfl _ _ h1
    cases hb : Nat.blt nx 1000000 with
    | false => rw [hb] at h2; exact (fl_no hfl h2).elim
    | true =>
     rw [hb] at h2
     simp only [cond_true, List.nil_append] at h2
     have hnx : nx < 1000000 := by rw [Nat.blt_eq] at hb; exact hb
     rw [evT_ev] at hm
     obtain ⟨hle, hkeys⟩ := opM_wf hm
     have hk : ∀ p ∈ ups, p.1 < nx := by
      intro p hp
      rcases hkeys p hp with h3 | h3
      · obtain ⟨c, hc⟩ := mrun_reads _ _ hm p.1 h3
        have := hs1.dom _ c hc; omega
      · exact h3.2
     have hk2 : ∀ p ∈ ups, p.1 < 1000000 := fun p hp => by have := hk p hp; omega
     have ou := upd_ok hs1 hle hnx hk
     have hhp : (s1.upd ups nx).hp.get = updF ups s1.hp.get := upsTr_get _ _ hk2
     obtain ⟨recs, s', ht, hs', g1, g2, g3, g6⟩ := opsR_run os (i + 1) _ _ (put_ok ou hd1 r) h2
     rw [put_sz, put_hp, put_nx, hhp, tmp_put (s := s1.upd ups nx) hd1 ou.size] at ht
     rw [hal.tmp, hal.hp, hal.nx] at hm
     have ht' : Txt P κ all s.size os (updT s.tmp o.dst r) (updF ups s.hp.get) nx recs s'.tmp s'.hp.get s'.nx := by
      rw [← hal.tmp, ← hal.hp, ← hal.size]; exact ht
     refine ⟨_ :: recs, s', .run hdN hw hm ht', hs', by rw [g1, put_sz]; exact hal.size, by rw [g2, put_rd]; exact hal.rd, ((hal.later.trans (upd_later hle hk2)).trans (put_later _ _ _)).trans g3, ?_⟩
     simpa [feet] using g6
   | false =>
    simp only [cond_false] at h1
    obtain ⟨recs, s', ht, hs', g1, g2, g3, g6⟩ := opsR_run os (i + 1) _ _ (put_ok hs1 hd1 (.tup [])) h1
    rw [put_sz, put_hp, put_nx, tmp_put hd1 hs1.size, hal.tmp, hal.hp, hal.nx, hal.size] at ht
    exact ⟨_ :: recs, s', .skip hdN hw ht, hs', by rw [g1, put_sz, hal.size], by rw [g2, put_rd, hal.rd], (hal.later.trans (put_later _ _ _)).trans g3, by simpa [feet] using g6⟩
omit hfl hrec hκ in
theorem cnt_le_n (D : Nat → Bool) : ∀ n, cnt D n ≤ n
 | 0 => Nat.le_refl _
 | n + 1 => by have := cnt_le_n D n; simp only [cnt]; split <;> omega
omit hfl hrec hκ in
theorem drew_same {Im : Nat → Prop} {w : World} : ∀ b, Im b → Im b ∧ ({ w with drawn := w.drawn + 1 } : World).heap[b]? = w.heap[b]? := fun _ hb => ⟨hb, rfl⟩
omit hfl hrec hκ in
theorem Ext.drew {new : Nat → Prop} {h : HpF} {w : World} {Im : Nat → Prop} {θ : Th} : Ext new h w Im θ h { w with drawn := w.drawn + 1 } Im θ where
 thOld _ _ := rfl
 thUp _ _ h := h
 imUp _ h := h
 size := Nat.le_refl _
 keep _ _ _ := rfl
 imNew _ h := .inl h
 ownNew x c _ N h1 h2 := .inl ⟨x, c, N, h1, h2⟩
 os := rfl
 output := rfl
 tape := rfl
omit hfl hrec hκ in
theorem SimF.drew {n : Nat} {T : Nat → SV} {h : HpF} {a : Act} {w : World} {Im : Nat → Prop} {θ : Th} (s : SimF P ω n T h a w Im θ) : SimF P ω n T h a { w with drawn := w.drawn + 1 } Im θ := by
 refine ⟨s.size, fun t ht => (s.tm t ht).mono drew_same (fun _ _ h => h), s.out, s.df.step (Ext.drew (new := fun _ => False)), ?_⟩
 exact ⟨fun x c hx => (s.hp.at_ x c hx).mono drew_same (fun _ _ h => h) rfl (fun _ _ _ => rfl), s.hp.inj, s.hp.own, s.hp.im, s.hp.gl.mono drew_same⟩
omit hfl hrec in
theorem txt_comes (hmix : P.follows .mixedOrders = true) {id : Nat} {ops : Array Oper} {draw : Bool} {s s' : St} {recs : List Rec} {T' : Nat → SV} (hs : StOk s) (hs' : StOk s') (hl : Later s s') (hz : s'.size = s.size) (hrd : s'.rd = s.rd)
  (ht : Txt P κ ops.toList s.size ops.toList s.tmp s.hp.get s.nx recs T' s'.hp.get s'.nx) (hT : ∀ t, s'.tmp t = .junk ∨ s'.tmp t = T' t)
  (hdr : draw = true → staticOk ops.toList (befAll ops.toList []) [] ops.toList 0 = true ∧ footsOk (befAll ops.toList []) (feet 0 recs []) = true) : Comes P (.region id ops draw) s .normal s' := by
 refine ⟨hl, hz, hrd, 0, fun ω ρ Q a w Im θ sim hA => ?_⟩
 have fin : ∀ (a' : Act) (w' : World) (Im' : Nat → Prop) (θ' : Th), SimF P ω s.size T' s'.hp.get a' w' Im' θ' → Fr s'.nx θ' s'.hp.get → a'.defers = a.defers → Ext (fun x => s.nx ≤ x) s.hp.get w Im θ s'.hp.get w' Im' θ' → Q .normal a' w' := by
  intro a' w' Im' θ' hS hF hdf hE
  refine hA a' w' Im' θ' ⟨hs', by rw [hz]; exact hS.weaken hT, hF, ?_⟩ hE (New.refl hdf)
  rw [hrd]
  rcases sim.rd with g | ⟨y, b, N, g1, g2, g3⟩
  · exact .inl g
  · exact .inr ⟨y, b, N, g1, hE.thUp _ _ g2, g3⟩
 show (Code.region id ops draw).wpIn (FR ρ) 0 P Q a w
 cases draw with
 | false =>
  refine wpIn_region ?_
  have hsnd := seq_sound (P := P) hκ (nx0 := s.nx) (ro := ρ) (Q := Q) (ds := a.defers) ht 0 a w Im θ (by simp) rfl sim.sf sim.fr (Nat.le_refl _) (w0 := w) (Im0 := Im) (θ0 := θ) (h0 := s.hp.get) (Ext.refl _) (fun a' w' Im' θ' hdf hS hF hn hE =>
   fin a' w' Im' θ' hS hF hdf hE)
  simpa [List.range_eq_range'] using hsnd
 | true =>
  obtain ⟨hst, hf⟩ := hdr rfl
  refine wpIn_region_any hmix ?_
  have hS := sim.sf.drew
  have hz' : ∀ j, 0 ≤ j → (fun _ : Nat => false) j = false := fun _ _ => rfl
  refine any_sound (P := P) (ω := ω) hκ (all := ops.toList) (nxs := s.nx) (ro := ρ) (ds := a.defers) ht hs.dom (Nat.le_refl _) (static_of hst) hf (Q := Q) (hs := s.hp.get) (ws := w) (Ims := Im) (θs := θ) ?_ ops.size (fun _ => false) (Array.replicate ops.size false) a { w with drawn := w.drawn + 1 } Im θ ?_ (by simp) ?_ (fun _ _ => rfl) (fun i hi => by cases hi) rfl ?_ ?_ ?_
  · intro a' w' Im' θ' hdf hS' hF hn hE'
    exact fin a' w' Im' θ' hS' hF hdf hE'
  · have := cnt_le_n (fun _ => false) ops.toList.length
    simpa using this
  · intro i hi
    simp at hi
    simp [hi]
  · rw [TD_none _ _ _ _ hz', HD_none _ _ _ _ hz']; exact hS
  · intro x hx
    left
    rw [HD_none _ _ _ _ hz'] at hx
    rcases Nat.lt_or_ge x s.nx with h1 | h1
    · exact h1
    · obtain ⟨f1, f2⟩ := sim.fr x h1
      rcases hx with hx | hx
      · exact absurd f1 hx
      · exact absurd f2 hx
  · rw [HD_none _ _ _ _ hz']; exact Ext.drew
theorem region_run (hmix : P.follows .mixedOrders = true) {id : Nat} {ops : Array Oper} {draw : Bool} {s : St} {k : St → R} {d : D} (hs : StOk s) (h : den (regionC fl P κ ι rec ops draw k s) = some d) :
  ∃ s', StOk s' ∧ Comes P (.region id ops draw) s .normal s' ∧ den (k s') = some d := by
 unfold regionC at h
 cases hsp : specRun P κ ops.toList draw s with
 | some s' =>
  simp only [hsp] at h
  obtain ⟨hst, recs, Ta, ht, hups, hs', g1, g2, g3, g4, g5, g6⟩ := specRun_run hs hsp
  have g7 : s'.rd = s.rd := specRun_rd hsp
  refine ⟨s', hs', txt_comes hκ hmix hs hs' (Later.of g4 g3 g2 g5) g1 g7 (by rw [g2, g3]; exact ht) g6 (fun hd => ⟨hst hd, footsOk_nil _ _ (feet_nil recs 0 [] hups (fun f h => by cases h))⟩), h⟩
 | none =>
  simp only [hsp] at h
  unfold regionB at h
  cases draw with
  | false =>
   simp only [cond_false] at h
   obtain ⟨s', hs', hl, hz, hr, h1, hwp⟩ := opsQ_run hfl hrec hκ ops.toList 0 s (by simp) hs h
   refine ⟨s', hs', ⟨hl, hz, hr, 0, fun ω ρ Q a w Im θ sim hA => ?_⟩, h1⟩
   show (Code.region id ops false).wpIn (FR ρ) 0 P Q a w
   refine wpIn_region ?_
   have := hwp ω ρ Q a w Im θ sim hA
   simpa [List.range_eq_range'] using this
  | true =>
   simp only [cond_true] at h
   cases hst : staticOk ops.toList (befAll ops.toList []) [] ops.toList 0 with
   | false => rw [hst] at h; exact (fl_no hfl h).elim
   | true =>
    rw [hst] at h
    simp only [cond_true] at h
    obtain ⟨recs, s', ht, hs', hz, hr, hl, h1⟩ := opsR_run hfl _ _ _ _ hs h
    cases hf : footsOk (befAll ops.toList []) (feet 0 recs []) with
    | false => rw [hf] at h1; exact (fl_no hfl h1).elim
    | true =>
     rw [hf] at h1
     simp only [cond_true] at h1
     exact ⟨s', hs', txt_comes hκ hmix hs hs' hl hz hr ht (fun t => .inr rfl) (fun _ => ⟨hst, hf⟩), h1⟩
end
end Go.Am
/- The abstract machine: a range over a function. -/
namespace Go.Am
variable {P : Program} {ω : Nat → Value}
theorem enter_range {ρ : Option Nat} {s : St} {a : Act} {w : World} {Im : Nat → Prop} {θ : Th} (sim : Sim P ω ρ s a w Im θ) (hrd : rdOk s = true) (hnx : s.nx + 1 < 1000000) (ps : Array Nat) (asg bdy : Code) (fn : FuncId) :
  ∃ (l : Nat) (mk : List Nat) (w1 : World) (θ1 : Th), (Instr.enterLoop fn a.tmps ps asg bdy ρ).run P w = .ok (l, mk.map mark) w1 ∧
   Sim P ω ρ (s.upd [(s.nx, some (.loopr .ready (listOfTr s s.size 0) ps asg bdy))] (s.nx + 1)) { a with defers := mk.map mark ++ a.defers } w1 Im θ1 ∧
   Ext (fun x => s.nx ≤ x) s.hp.get w Im θ (s.upd [(s.nx, some (.loopr .ready (listOfTr s s.size 0) ps asg bdy))] (s.nx + 1)).hp.get w1 Im θ1 ∧ θ1 s.nx = some (l, 0) ∧ ∀ r ∈ mk, w.heap.size ≤ r := by
 have hs := sim.ok
 have hk : ∀ p ∈ [(s.nx, some (Chunk.loopr .ready (listOfTr s s.size 0) ps asg bdy))], p.1 < s.nx + 1 := by
  intro p hp
  simp only [List.mem_singleton] at hp
  subst hp; exact Nat.lt_succ_self _
 have ou := upd_ok hs (Nat.le_succ _) hnx hk
 have hhp : (s.upd [(s.nx, some (.loopr .ready (listOfTr s s.size 0) ps asg bdy))] (s.nx + 1)).hp.get = updF [(s.nx, some (.loopr .ready (listOfTr s s.size 0) ps asg bdy))] s.hp.get :=
  upsTr_get _ _ (fun p hp => by have := hk p hp; omega)
 obtain ⟨f1, f2⟩ := sim.fr s.nx (Nat.le_refl _)
 -- what both ways have in common
 have core : ∀ (wA : World) (lp : Loop), Ext (fun _ => False) s.hp.get w Im θ s.hp.get wA Im θ → HRel P ω wA Im θ s.hp.get → lp.tmps = a.tmps → lp.params = ps → lp.assign = asg → lp.body = bdy → lp.state = .ready → lp.pending = none →
   ∃ θ1, Ext (fun x => s.nx ≤ x) s.hp.get w Im θ (s.upd [(s.nx, some (.loopr .ready (listOfTr s s.size 0) ps asg bdy))] (s.nx + 1)).hp.get (wA.alloc (.loop lp)) Im θ1 ∧
    HRel P ω (wA.alloc (.loop lp)) Im θ1 (s.upd [(s.nx, some (.loopr .ready (listOfTr s s.size 0) ps asg bdy))] (s.nx + 1)).hp.get ∧ θ1 s.nx = some (wA.heap.size, 0) ∧ (∀ x, x ≠ s.nx → θ1 x = θ x) ∧
    (∀ ds, Mk (wA.alloc (.loop lp)) Im θ1 (s.upd [(s.nx, some (.loopr .ready (listOfTr s s.size 0) ps asg bdy))] (s.nx + 1)).hp.get ds →
     Sim P ω ρ (s.upd [(s.nx, some (.loopr .ready (listOfTr s s.size 0) ps asg bdy))] (s.nx + 1)) { a with defers := ds } (wA.alloc (.loop lp)) Im θ1) := by
  intro wA lp hE hH h1 h2 h3 h4 h5 h6
  have hSA : SimF P ω s.size s.tmp s.hp.get a wA Im θ := sim.sf.step (dst := none) trivial hE (VRel'.junk (u := undef)) hH
  obtain ⟨θ1, g1, g2, g3⟩ := alloc_loop (st := .ready) hH f1 (lp := lp) (vs := listOfTr s s.size 0) (by rw [h1]; exact list_rel hSA) ⟨h5, h6⟩
  rw [h2, h3, h4, ← hhp] at g1 g2
  have hEE : Ext (fun x => s.nx ≤ x) s.hp.get w Im θ (s.upd [(s.nx, some (.loopr .ready (listOfTr s s.size 0) ps asg bdy))] (s.nx + 1)).hp.get (wA.alloc (.loop lp)) Im θ1 :=
   (hE.mono (fun _ h => h.elim)).trans (g1.mono (fun x hx => hx.1))
  refine ⟨θ1, hEE, g2, g3, fun x hx => g1.thOld x (fun hh => hx (by omega)), fun ds hds => ⟨ou, ⟨sim.sf.size, fun t ht => hEE.val sim.sf.hp (sim.sf.tm t ht), sim.sf.out, hds, g2⟩, ?_, ?_⟩⟩
  · rw [hhp]
    intro y hy
    have hy' : s.nx + 1 ≤ y := hy
    obtain ⟨k1, k2⟩ := sim.fr y (by omega)
    have hne : y ≠ s.nx := by omega
    refine ⟨by rw [g1.thOld y (fun hh => by omega)]; exact k1, by simp [updF, hne, k2]⟩
  · rcases sim.rd with h | ⟨y, b, N, k1, k2, k3⟩
    · exact .inl h
    · exact .inr ⟨y, b, N, k1, hEE.thUp _ _ k2, k3⟩
 rcases sim.rd with ⟨hr0, rfl⟩ | ⟨y, b, N, k1, k2, rfl⟩
 · -- the outermost
   obtain ⟨hE, hH⟩ := alloc_free sim.sf.hp (.deferred (some []))
   obtain ⟨θ1, g1, g2, g3, g4, g5⟩ := core _ { state := .ready, pending := none, fn := fn, tmps := a.tmps, params := ps, assign := asg, body := bdy, defers := w.heap.size } hE hH rfl rfl rfl rfl rfl rfl
   refine ⟨_, [w.heap.size], _, θ1, run_enterLoop_outer fn a.tmps ps asg bdy, g5 _ ?_, g1, by rw [g3]; simp, fun r hr => by simp at hr; omega⟩
   obtain ⟨rs, base, h1, hb, h2, h3⟩ := sim.sf.df.step g1
   refine ⟨w.heap.size :: rs, base, by simp [h1, mark], hb, List.nodup_cons.2 ⟨fun hh => ?_, h2⟩, fun r hr => ?_⟩
   · obtain ⟨rs', base', h1', hb', -, h3'⟩ := sim.sf.df
     have : mark w.heap.size ∈ a.defers := by rw [h1]; exact List.mem_append.2 (.inl (List.mem_map.2 ⟨_, hh, rfl⟩))
     rw [h1'] at this
     rcases List.mem_append.1 this with this | this
     case inr => exact (hb' _ this _ rfl).elim
     obtain ⟨q, hq, e⟩ := List.mem_map.1 this
     simp only [mark, Deferred.mk.injEq, Target.collected.injEq, and_true] at e
     have := heap_lt (h3' q hq).1
     omega
   · rcases List.mem_cons.1 hr with rfl | hr
     · refine ⟨?_, fun hi => ?_, fun x c M hx hθ => ?_⟩
       · rw [alloc_old _ _ _ (by simp), alloc_new]
       · have := sim.sf.hp.im _ hi; omega
       · by_cases hxn : x = s.nx
         · subst hxn
           rw [g3] at hθ
           simp only [Option.some.injEq, Prod.mk.injEq, World.size_alloc] at hθ
           omega
         · rw [g4 x hxn] at hθ
           rw [hhp] at hx
           simp only [updF, if_neg hxn] at hx
           have := (sim.sf.hp.own x c _ M hx hθ).2
           omega
     · exact h3 r hr
 · -- in a round
   have hl : ∃ lp : Loop, w.heap[b]? = some (.loop lp) := by
    unfold rdOk at hrd
    rw [k1] at hrd
    simp only [] at hrd
    split at hrd
    · rename_i hy
      obtain ⟨b', N', lp, j1, j2, -⟩ := sim.sf.hp.at_ y _ hy
      rw [k2] at j1
      simp only [Option.some.injEq, Prod.mk.injEq] at j1
      exact ⟨lp, by rw [j1.1]; exact j2⟩
    · cases hrd
   obtain ⟨lp, hlp⟩ := hl
   obtain ⟨θ1, g1, g2, g3, g4, g5⟩ := core w { state := .ready, pending := none, fn := fn, tmps := a.tmps, params := ps, assign := asg, body := bdy, defers := lp.defers } (Ext.refl _) sim.sf.hp rfl rfl rfl rfl rfl rfl
   exact ⟨_, [], _, θ1, run_enterLoop_inner hlp fn a.tmps ps asg bdy, g5 _ (sim.sf.df.step g1), g1, g3, fun r hr => by cases hr⟩
section
variable {R D : Type} {fl : R} {den : R → Option D} (hfl : den fl = none) {rec : Rcr R} (hrec : RcrOk P den rec) {κ : Nat → Option CSumm} {ι : Nat → Bool}
include hfl hrec
theorem range_run {g : Operand} {ps : Array Tmp} {asg bdy : Code} {s : St} {k : Ex → St → R} {d : D} (hs : StOk s) (h : den (execC fl P κ ι rec (.rangeFunc g ps asg bdy) s k) = some d) :
  ∃ e s2, StOk s2 ∧ Comes P (.rangeFunc g ps asg bdy) s e s2 ∧ den (k e s2) = some d := by
 simp only [execC] at h
 split at h
 case h_2 => exact (fl_no hfl h).elim
 rename_i f first caps hg
 cases hc : rdOk s && Nat.blt (s.nx + 1) 1000000 with
 | false => rw [hc] at h; exact (fl_no hfl h).elim
 | true =>
  rw [hc] at h
  simp only [cond_true] at h
  simp only [Bool.and_eq_true] at hc
  have hnx : s.nx + 1 < 1000000 := by have := hc.2; rwa [Nat.blt_eq] at this
  have hk : ∀ p ∈ [(s.nx, some (Chunk.loopr .ready (listOfTr s s.size 0) ps asg bdy))], p.1 < s.nx + 1 := by
   intro p hp
   simp only [List.mem_singleton] at hp
   subst hp; exact Nat.lt_succ_self _
  have ou := upd_ok hs (Nat.le_succ _) hnx hk
  have ol : Later s (s.upd [(s.nx, some (Chunk.loopr .ready (listOfTr s s.size 0) ps asg bdy))] (s.nx + 1)) := upd_later (Nat.le_succ _) (fun p hp => by have := hk p hp; omega)
  obtain ⟨r, s1, hs1, hl1, e1, e2, e3, h2, ⟨fnc, hfn, hn1, hn2⟩, hw⟩ := callIn_run hfl hrec ou h
  -- the end of it
  have fin : ∀ (st : LS) (e : Ex) (vs1 : List SV) (ps1 : Array Nat) (asg1 bdy1 : Code), s1.hp.get s.nx = some (.loopr st vs1 ps1 asg1 bdy1) → ((st = .ready ∧ e = .normal) ∨ st = .done e) →
    StOk (s1.upd [(s.nx, none)] s1.nx) ∧ Comes P (.rangeFunc g ps asg bdy) s e (s1.upd [(s.nx, none)] s1.nx) := by
   intro st e vs1 ps1 asg1 bdy1 hx1 hst
   obtain ⟨o2, l2, g2⟩ := turn_ok none hx1 hs1
   refine ⟨o2, (ol.trans hl1).trans l2, e2, e3, 0, fun ω ρ Q a w Im θ sim hA => ?_⟩
   show (Code.rangeFunc g ps asg bdy).wpIn (FR ρ) 0 P Q a w
   refine wpIn_rangeFunc (fun fn _ => ?_)
   obtain ⟨l, mk, w1, θ1, hen, sim0, hE0, hθ1, hmk⟩ := enter_range sim hc.1 hnx ps asg bdy fn
   have hf := sim.sf.eval g
   rw [← evT_ev, hg] at hf
   generalize hu : a.eval g = u at hf
   cases hf with
   | fn h1 h3 h4 h5 =>
    rename_i us vs
    have lift : ∀ {v : SV} {u : Value}, VRel P ω w Im θ v u → VRel P ω w1 Im θ1 v u := fun hv => hE0.val sim.sf.hp hv
    have hl : LRel P ω w1 Im θ1 (first ++ ([.yl s.nx] ++ caps)) (us.toList ++ ([.func (.yield l) #[] #[]] ++ vs.toList)) := by
     refine LRel.append ⟨by simpa using h1, fun i v u hv hu => lift (h4 i v u hv (by simpa using hu))⟩ (LRel.append ⟨rfl, fun i v u hv hu => ?_⟩ ⟨by simpa using h3, fun i v u hv hu => lift (h5 i v u hv (by simpa using hu))⟩)
     match i, hv, hu with
     | 0, hv, hu => cases hv; cases hu; exact .yl hθ1
    have ee : (us.toList ++ ([Value.func (.yield l) #[] #[]] ++ vs.toList)).toArray = us ++ #[Value.func (.yield l) #[] #[]] ++ vs := by
     apply Array.ext'
     simp
    have hn1' : ¬ fnc.name = "runtime.NumGoroutine" := by simpa using hn1
    have hn2' : ¬ fnc.body = none := by intro hh; simp [hh] at hn2
    refine ⟨l, mk.map mark, w1, { target := .fn (.func f) vs, args := us ++ #[.func (.yield l) #[] #[]] }, w1, f, (us.toList ++ ([Value.func (.yield l) #[] #[]] ++ vs.toList)).toArray, w1, hen, ?_, fun f' _ => FR_fn ρ f', ?_, FR_depth1 ρ, ?_⟩
    · have hcst : a.eval (.const (.func (.yield l) #[] #[])) = .func (.yield l) #[] #[] := rfl
      simp [resolve, hu, Deferred.ofValue, hcst]
    · rw [ee]
      simp [invoke, callFunc, hfn, hn1', hn2']
    · refine hw _ ρ { a with defers := mk.map mark ++ a.defers } w1 Im θ1 _ _ sim0 hl (fun v w' Im' θ' sim' hE hv => ?_)
      have hθ' : θ' s.nx = some (l, 0) := hE.thUp _ _ hθ1
      obtain ⟨b', N', lp', j1, j2, -, -, -, j3, -⟩ := sim'.sf.hp.at_ _ _ hx1
      rw [hθ'] at j1
      simp only [Option.some.injEq, Prod.mk.injEq] at j1
      obtain ⟨rfl, rfl⟩ := j1
      have hnb : lp'.state ≠ .busy := by
       rcases hst with ⟨rfl, -⟩ | rfl
       · rw [j3.1]; simp
       · rw [j3.1]; simp
      obtain ⟨hEd, hHd⟩ := put_block sim'.sf.hp hx1 hθ' (.loop { lp' with state := .exhausted }) none (fun _ d hd => by cases hd)
      obtain ⟨sim2, hE2⟩ := sim'.turn hx1 hEd hHd
      have hEall : Ext (fun x => s.nx ≤ x) s.hp.get w Im θ (s1.upd [(s.nx, none)] s1.nx).hp.get (w'.putObj l (.loop { lp' with state := .exhausted })) Im' θ' :=
       (hE0.trans (hE.mono (fun x hx => Nat.le_trans ol.nx hx))).trans (hE2.mono (fun x hx => Nat.le_trans (ol.trans hl1).nx hx))
      have hQ : Q (exitOf e) { a with defers := mk.map mark ++ a.defers } (w'.putObj l (.loop { lp' with state := .exhausted })) := hA _ _ Im' θ' sim2 hEall ⟨mk, rfl, hmk⟩
      refine ⟨lp'.pending, _, run_endLoop j2 hnb, ?_⟩
      rcases hst with ⟨rfl, rfl⟩ | rfl
      · rw [j3.2] at hQ ⊢; exact hQ
      · rw [j3.2.1] at hQ ⊢
        cases e with
        | normal => exact absurd j3.2.1 j3.2.2
        | ret => exact wpIn_ret hQ
        | exit id => exact wpIn_exit hQ
  split at h2
  · rename_i vs1 ps1 asg1 bdy1 hx1
    obtain ⟨o2, hcm⟩ := fin .ready .normal _ _ _ _ hx1 (.inl ⟨rfl, rfl⟩)
    exact ⟨.normal, _, o2, hcm, h2⟩
  · rename_i e vs1 ps1 asg1 bdy1 hx1
    obtain ⟨o2, hcm⟩ := fin (.done e) e _ _ _ _ hx1 (.inr rfl)
    exact ⟨e, _, o2, hcm, h2⟩
  · exact (fl_no hfl h2).elim
end
end Go.Am
/- The abstract machine: scopes that nothing jumps out of. -/
namespace Go
variable {F : Fence} {n : Nat} {P : Program} {Q : Exit → Act → World → Prop} {a : Act} {w : World}
theorem stepR_scopeA {b : Frame} {k : List Item} {cs : List Frame} {c : Code} : step P (lone (b.atR a (.code (.scope c) :: k)) cs w) = .next (lone (b.atR a (.code c :: .inScope c :: k)) cs w) := step_lone_go (by simp [stepG, stepG.exec, Frame.atR])
theorem stepR_inScopeA {b : Frame} {k : List Item} {cs : List Frame} {c : Code} : step P (lone (b.atR a (.inScope c :: k)) cs w) = .next (lone (b.atR a k) cs w) := step_lone_go (by simp [stepG, stepG.exec, Frame.atR])
theorem wpIn_scope_straight {c : Code} (h : c.wpIn F n P (Exit.noGoto Q) a w) : (Code.scope c).wpIn F n P Q a w := by
 intro b k cs hro hb hr
 have h0 : (lone (b.atR a (.code (.scope c) :: k)) cs w).fenced P F := fenced_calm hb hr rfl
 obtain ⟨e, a₁, w₁, hq, harr⟩ := h b (.inScope c :: k) cs hro hb hr
 cases e with
 | normal => exact ⟨.normal, a₁, w₁, hq, .head h0 stepR_scopeA (StepsIn.trans harr (.one (fenced_calm hb hr rfl) stepR_inScopeA))⟩
 | exit id =>
  have hx : exitTo id (.inScope c :: k) = exitTo id k := by simp [exitTo]
  exact ⟨.exit id, a₁, w₁, hq, fun k' hk => .head h0 stepR_scopeA (harr.1 k' (by rw [hx]; exact hk)), fun hr' hk => let ⟨k₁, h1, h2⟩ := harr.2 hr' (by rw [hx]; exact hk); ⟨k₁, h1, .head h0 stepR_scopeA h2⟩⟩
 | goto l => exact hq.elim
 | ret => exact ⟨_, a₁, w₁, hq, .of_steps (.one h0 stepR_scopeA) harr⟩
 | panic ch => exact ⟨_, a₁, w₁, hq, .of_steps (.one h0 stepR_scopeA) harr⟩
 | outgrown => exact ⟨_, a₁, w₁, hq, .of_steps (.one h0 stepR_scopeA) harr⟩
end Go
/- The abstract machine: code. -/
namespace Go.Am
variable {P : Program} {ω : Nat → Value}
theorem comes_self {c : Code} {s : St} {e : Ex} (h : ∀ (ρ : Option Nat) (Q : Exit → Act → World → Prop) (a : Act) (w : World), Q (exitOf e) a w → W P ρ 0 c Q a w) : Comes P c s e s :=
 ⟨Later.refl s, rfl, rfl, 0, fun _ ρ Q a w Im θ sim hA => h ρ Q a w (hA a w Im θ sim (Ext.refl _) (New.refl rfl))⟩
section
variable {R D : Type} {fl : R} {den : R → Option D} (hfl : den fl = none) {rec : Rcr R} (hrec : RcrOk P den rec) {κ : Nat → Option CSumm} {ι : Nat → Bool} (hκ : KOk P κ)
include hfl hrec hκ
theorem execC_ok (hmix : P.follows .mixedOrders = true) : RcrOk P den (execC fl P κ ι rec) := by
 intro c
 induction c with
 | skip => intro s k d hs h; exact ⟨.normal, s, hs, comes_self (fun ρ Q a w hq => wpIn_skip hq), h⟩
 | region id ops draw =>
  intro s k d hs h
  obtain ⟨s', hs', hc, h1⟩ := region_run hfl hrec hκ (id := id) hmix hs h
  exact ⟨.normal, s', hs', hc, h1⟩
 | seq x y ihx ihy =>
  intro s k d hs h
  simp only [execC] at h
  obtain ⟨e, s1, hs1, hc1, h1⟩ := ihx s _ d hs h
  cases e with
  | normal =>
   simp only [] at h1
   obtain ⟨e2, s2, hs2, hc2, h2⟩ := ihy s1 k d hs1 h1
   refine ⟨e2, s2, hs2, ⟨hc1.later.trans hc2.later, by rw [hc2.size, hc1.size], by rw [hc2.rd, hc1.rd], 0, fun ω ρ Q a w Im θ sim hA => ?_⟩, h2⟩
   refine wpIn_seq (hc1.wp ρ _ a w Im θ sim (fun a' w' Im' θ' sim' hE hN => ?_))
   exact hc2.wp ρ Q a' w' Im' θ' sim' (After.trans hc1.later hE hN hA)
  | exit id =>
   exact ⟨.exit id, s1, hs1, ⟨hc1.later, hc1.size, hc1.rd, 0, fun ω ρ Q a w Im θ sim hA => wpIn_seq (hc1.wp ρ _ a w Im θ sim (fun a' w' Im' θ' sim' hE hN => hA a' w' Im' θ' sim' hE hN))⟩, h1⟩
  | ret =>
   exact ⟨.ret, s1, hs1, ⟨hc1.later, hc1.size, hc1.rd, 0, fun ω ρ Q a w Im θ sim hA => wpIn_seq (hc1.wp ρ _ a w Im θ sim (fun a' w' Im' θ' sim' hE hN => hA a' w' Im' θ' sim' hE hN))⟩, h1⟩
 | cond c x y ihx ihy =>
  intro s k d hs h
  simp only [execC] at h
  split at h
  · rename_i b hb
    have hev : ∀ {ω : Nat → Value} {ρ : Option Nat} {a : Act} {w : World} {Im : Nat → Prop} {θ : Th}, Sim P ω ρ s a w Im θ → a.eval c = .bool b := by
     intro ω ρ a w Im θ sim
     have := sim.sf.eval c
     rw [← evT_ev, hb] at this
     generalize a.eval c = u at this
     cases this
     rfl
    cases b with
    | true =>
     obtain ⟨e, s1, hs1, hc1, h1⟩ := ihx s k d hs h
     exact ⟨e, s1, hs1, ⟨hc1.later, hc1.size, hc1.rd, 0, fun ω ρ Q a w Im θ sim hA => wpIn_cond_true (hev sim) (hc1.wp ρ Q a w Im θ sim hA)⟩, h1⟩
    | false =>
     obtain ⟨e, s1, hs1, hc1, h1⟩ := ihy s k d hs h
     exact ⟨e, s1, hs1, ⟨hc1.later, hc1.size, hc1.rd, 0, fun ω ρ Q a w Im θ sim hA => wpIn_cond_false (hev sim) (hc1.wp ρ Q a w Im θ sim hA)⟩, h1⟩
  · exact (fl_no hfl h).elim
 | block id c ih =>
  intro s k d hs h
  simp only [execC] at h
  obtain ⟨e, s1, hs1, hc1, h1⟩ := ih s _ d hs h
  cases e with
  | normal => exact ⟨.normal, s1, hs1, ⟨hc1.later, hc1.size, hc1.rd, 0, fun ω ρ Q a w Im θ sim hA => wpIn_block (hc1.wp ρ _ a w Im θ sim hA)⟩, h1⟩
  | ret => exact ⟨.ret, s1, hs1, ⟨hc1.later, hc1.size, hc1.rd, 0, fun ω ρ Q a w Im θ sim hA => wpIn_block (hc1.wp ρ _ a w Im θ sim hA)⟩, h1⟩
  | exit j =>
   simp only [] at h1
   cases hj : Nat.beq j id with
   | true =>
    rw [hj] at h1
    have hji : j = id := Nat.eq_of_beq_eq_true hj
    subst hji
    refine ⟨.normal, s1, hs1, ⟨hc1.later, hc1.size, hc1.rd, 0, fun ω ρ Q a w Im θ sim hA => wpIn_block (hc1.wp ρ _ a w Im θ sim (fun a' w' Im' θ' sim' hE hN => ?_))⟩, h1⟩
    simp only [exitOf, Exit.inBlock, if_true]
    exact hA a' w' Im' θ' sim' hE hN
   | false =>
    rw [hj] at h1
    have hji : ¬ j = id := fun e => by rw [nb_t e] at hj; cases hj
    refine ⟨.exit j, s1, hs1, ⟨hc1.later, hc1.size, hc1.rd, 0, fun ω ρ Q a w Im θ sim hA => wpIn_block (hc1.wp ρ _ a w Im θ sim (fun a' w' Im' θ' sim' hE hN => ?_))⟩, h1⟩
    simp only [exitOf, Exit.inBlock, if_neg hji]
    exact hA a' w' Im' θ' sim' hE hN
 | loop c ih =>
  intro s k d hs h
  simp only [execC] at h
  obtain ⟨e, s1, hs1, hc1, h1⟩ := ih s _ d hs h
  cases e with
  | normal =>
   simp only [] at h1
   obtain ⟨e2, s2, hs2, hc2, h2⟩ := hrec (.loop c) s1 k d hs1 h1
   obtain ⟨m, hm⟩ := hc2.wps
   refine ⟨e2, s2, hs2, ⟨hc1.later.trans hc2.later, by rw [hc2.size, hc1.size], by rw [hc2.rd, hc1.rd], m + 1, fun ω ρ Q a w Im θ sim hA => ?_⟩, h2⟩
   show Code.roundsIn (FR ρ) 0 P c Q (m + 1) a w
   rw [roundsIn_succ]
   refine hc1.wp ρ _ a w Im θ sim (fun a' w' Im' θ' sim' hE hN => ?_)
   exact hm ω ρ Q a' w' Im' θ' sim' (After.trans hc1.later hE hN hA)
  | exit id =>
   refine ⟨.exit id, s1, hs1, ⟨hc1.later, hc1.size, hc1.rd, 1, fun ω ρ Q a w Im θ sim hA => ?_⟩, h1⟩
   show Code.roundsIn (FR ρ) 0 P c Q 1 a w
   rw [roundsIn_succ]
   exact hc1.wp ρ _ a w Im θ sim (fun a' w' Im' θ' sim' hE hN => hA a' w' Im' θ' sim' hE hN)
  | ret =>
   refine ⟨.ret, s1, hs1, ⟨hc1.later, hc1.size, hc1.rd, 1, fun ω ρ Q a w Im θ sim hA => ?_⟩, h1⟩
   show Code.roundsIn (FR ρ) 0 P c Q 1 a w
   rw [roundsIn_succ]
   exact hc1.wp ρ _ a w Im θ sim (fun a' w' Im' θ' sim' hE hN => hA a' w' Im' θ' sim' hE hN)
 | exit id => intro s k d hs h; exact ⟨.exit id, s, hs, comes_self (fun ρ Q a w hq => wpIn_exit hq), h⟩
 | label l => intro s k d hs h; exact ⟨.normal, s, hs, comes_self (fun ρ Q a w hq => wpIn_label hq), h⟩
 | ret => intro s k d hs h; exact ⟨.ret, s, hs, comes_self (fun ρ Q a w hq => wpIn_ret hq), h⟩
 | rangeFunc f ps x y _ _ => intro s k d hs h; exact range_run hfl hrec hs h
 | scope c ih =>
  intro s k d hs h
  simp only [execC] at h
  obtain ⟨e, s1, hs1, hc1, h1⟩ := ih s k d hs h
  exact ⟨e, s1, hs1, ⟨hc1.later, hc1.size, hc1.rd, 0, fun ω ρ Q a w Im θ sim hA => wpIn_scope_straight (hc1.wp ρ _ a w Im θ sim (fun a' w' Im' θ' sim' hE hN => by
   cases e <;> exact hA a' w' Im' θ' sim' hE hN))⟩, h1⟩
 | goto l => intro s k d hs h; exact (fl_no hfl h).elim
 | refuse w => intro s k d hs h; exact (fl_no hfl h).elim
end
theorem exec_ok {R D : Type} {fl : R} {den : R → Option D} (hfl : den fl = none) {κ : Nat → Option CSumm} {ι : Nat → Bool} (hκ : KOk P κ) (hmix : P.follows .mixedOrders = true) : ∀ n, RcrOk P den (exec fl P κ ι n)
 | 0 => fun _ _ _ _ _ h => (fl_no hfl h).elim
 | n + 1 => execC_ok hfl (exec_ok hfl hκ hmix n) hκ hmix
end Go.Am
