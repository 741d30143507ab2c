/- The abstract machine: code, functions. -/
import Derived.Test.YtohhhodkmnpjpaaAmSpec
import Derived.LoopN
namespace Go.Am
variable {P : Program}

theorem upsTr_get : ∀ (l : List (Nat × Option Chunk)) (h : Tr Chunk), (∀ p ∈ l, p.1 < 1000000) → (upsTr l h).get = updF l h.get
  | [], _, _ => rfl
  | (x, c) :: l, h, hl => by
    simp only [upsTr, updF]
    rw [upsTr_get l _ (fun p hp => hl p (by simp [hp]))]
    congr 1
    funext y
    rw [Tr.get_set 20 h x c y (by have := hl (x, c) (by simp); simp at this; omega)]

theorem interp_run {h : Tr Chunk} {κ : Nat → Option CSumm} {k : SV → List (Nat × Option Chunk) → Nat → List Nat → Tree} {N : Nat} {res : Leaf} : ∀ (m : OpM) (rs : List Nat), runT P κ N (interp h k m rs) = some res →
    ∃ r ups nx rs', mrun h.get m = some (r, ups, nx, rs') ∧ runT P κ N (k r ups nx (rs ++ rs')) = some res
  | .done r ups nx, rs, hm => ⟨r, ups, nx, [], rfl, by simpa [interp] using hm⟩
  | .get x f, rs, hm => by
    simp only [interp] at hm
    cases hx : h.get x with
    | none => simp [hx] at hm; cases N <;> simp [runT] at hm
    | some c =>
      simp only [hx] at hm
      obtain ⟨r, ups, nx, rs', h1, h2⟩ := interp_run (f c) _ hm
      exact ⟨r, ups, nx, x :: rs', by simp [mrun, hx, h1], by simpa using h2⟩
  | .ite b t e, rs, hm => by
    simp only [interp] at hm
    cases b
    · simp only [cond_false] at hm
      obtain ⟨r, ups, nx, rs', h1, h2⟩ := interp_run e _ hm
      exact ⟨r, ups, nx, rs', by simp [mrun, h1], h2⟩
    · simp only [cond_true] at hm
      obtain ⟨r, ups, nx, rs', h1, h2⟩ := interp_run t _ hm
      exact ⟨r, ups, nx, rs', by simp [mrun, h1], h2⟩
  | .fail, rs, hm => by simp only [interp] at hm; cases N <;> simp [runT] at hm

theorem runT_fail {κ : Nat → Option CSumm} {N : Nat} {res : Leaf} (h : runT P κ N .fail = some res) : False := by cases N <;> simp [runT] at h

theorem dstOk_N {s : St} {d : Option Nat} (h : dstOk s d = true) : dstN s.size d := by
  cases d with
  | none => trivial
  | some d => simp only [dstOk] at h; rw [Nat.blt_eq] at h; exact h

theorem guardS_run {κ : Nat → Option CSumm} {all : List Oper} {s : St} {k : St → Bool → Tree} {o : Oper} {N : Nat} {res : Leaf} (hs : s.size < 16000) (h : runT P κ N (guardS all s k o.guard) = some res) :
    ∃ s1 go, s1.tmp = s.tmp ∧ s1.hp = s.hp ∧ s1.nx = s.nx ∧ s1.size = s.size ∧ s1.m = s.m ∧ s1.dirty = s.dirty ∧ wantedT all s.size s.tmp o = some go ∧ runT P κ N (k s1 go) = some res := by
  unfold guardS at h
  unfold wantedT
  cases hg : o.guard with
  | none =>
    rw [hg] at h
    exact ⟨s, true, rfl, rfl, rfl, rfl, rfl, rfl, rfl, h⟩
  | some p =>
    obtain ⟨j, want⟩ := p
    rw [hg] at h
    simp only [nth?_eq] at h
    simp only []
    cases hj : all[j]? with
    | none => simp only [hj] at h; exact (runT_fail h).elim
    | some oj =>
      simp only [hj] at h ⊢
      cases hd : oj.dst with
      | none => simp only [hd] at h; exact (runT_fail h).elim
      | some d =>
        simp only [hd] at h ⊢
        split at h
        · rename_i b hb
          cases hlt : Nat.blt d s.size with
          | false => rw [hlt] at h; exact (runT_fail h).elim
          | true =>
            rw [hlt] at h
            have hdn : d < s.size := by rw [Nat.blt_eq] at hlt; exact hlt
            simp only [hdn, if_true, hb]
            have ht : ∀ c, c = b → (s.put (some d) (.bool c)).tmp = s.tmp := by
              intro c hc
              rw [tmp_put (show dstN s.size (some d) from hdn) hs]
              funext t
              by_cases e : t = d
              · subst e; simp [updT, hb, hc]
              · simp [updT, e]
            cases b
            · simp only [cond_true, cond_false] at h
              exact ⟨_, !want, ht false rfl, rfl, rfl, rfl, rfl, rfl, by cases want <;> rfl, h⟩
            · simp only [cond_true] at h
              exact ⟨_, want, ht true rfl, rfl, rfl, rfl, rfl, rfl, by cases want <;> rfl, h⟩
        · rename_i hb
          cases hlt : Nat.blt d s.size with
          | false => rw [hlt] at h; exact (runT_fail h).elim
          | true =>
            rw [hlt] at h
            have hdn : d < s.size := by rw [Nat.blt_eq] at hlt; exact hlt
            simp only [hdn, if_true, hb]
            simp only [cond_true] at h
            exact ⟨s, false, rfl, rfl, rfl, rfl, rfl, rfl, rfl, h⟩
        · exact (runT_fail h).elim

theorem opsC_run {κ : Nat → Option CSumm} {all : List Oper} {k : St → List Foot → Tree} {N : Nat} {res : Leaf} : ∀ (os : List Oper) (i : Nat) (s : St) (acc : List Foot), StOk s → runT P κ N (opsC P κ all k os i s acc) = some res →
    ∃ recs s', Txt P κ all s.size os s.tmp s.hp.get s.nx recs s'.tmp s'.hp.get s'.nx ∧ StOk s' ∧ s'.size = s.size ∧ s'.m = s.m ∧ (∀ x, x < s.m → s'.hp.get x = s.hp.get x ∨ x ∈ s'.dirty) ∧ (∀ x ∈ s.dirty, x ∈ s'.dirty) ∧ (∀ x ∈ s'.dirty, x ∈ s.dirty ∨ x < s.m) ∧ runT P κ N (k s' (feet i recs acc)) = some res
  | [], i, s, acc, hs, h => ⟨[], s, .nil, hs, rfl, rfl, fun _ _ => .inl rfl, fun _ h => h, fun _ h => .inl h, h⟩
  | o :: os, i, s, acc, hs, h => by
    simp only [opsC] at h
    cases hd : dstOk s o.dst with
    | false => rw [hd] at h; exact (runT_fail h).elim
    | true =>
      rw [hd] at h
      simp only [cond_true] at h
      have hdN := dstOk_N hd
      obtain ⟨s1, go, e1, e2, e3, e4, e5, e6, hw, h1⟩ := guardS_run hs.size h
      have hs1 : StOk s1 := ⟨by rw [e4]; exact hs.size, by rw [e3]; exact hs.nx, by rw [e4, e1]; exact hs.out, by rw [e2, e3]; exact hs.dom, by rw [e3, e5]; exact hs.m⟩
      cases go with
      | true =>
        simp only [cond_true] at h1
        obtain ⟨r, ups, nx, rs', hm, h2⟩ := interp_run _ _ h1
        cases hb : Nat.blt nx 1000000 with
        | false => rw [hb] at h2; exact (runT_fail h2).elim
        | true =>
          rw [hb] at h2
          simp only [cond_true, List.nil_append] at h2
          have hnx : nx < 1000000 := by rw [Nat.blt_eq] at hb; exact hb
          rw [evT_ev, e1, e2, e3] at hm
          obtain ⟨hle, hkeys⟩ := opM_wf hm
          have hk : ∀ p ∈ ups, p.1 < nx := by
            intro p hp
            rcases hkeys p hp with h3 | h3
            · obtain ⟨c, hc⟩ := mrun_reads _ _ hm p.1 h3
              have := hs.dom _ c hc; omega
            · exact h3.2
          have hhp : ((s1.upd ups nx).put o.dst r).hp.get = updF ups s.hp.get := by
            have : ((s1.upd ups nx).put o.dst r).hp = upsTr ups s1.hp := by cases o.dst <;> rfl
            rw [this, upsTr_get _ _ (fun p hp => by have := hk p hp; omega), e2]
          have htm : ((s1.upd ups nx).put o.dst r).tmp = updT s.tmp o.dst r := by
            rw [tmp_put (s := s1.upd ups nx) (by show dstN s1.size o.dst; rw [e4]; exact hdN) (by show s1.size < 16000; exact hs1.size)]
            rw [show (s1.upd ups nx).tmp = s1.tmp from rfl, e1]
          have hnx' : ((s1.upd ups nx).put o.dst r).nx = nx := by cases o.dst <;> rfl
          have hsz : ((s1.upd ups nx).put o.dst r).size = s.size := by rw [← e4]; cases o.dst <;> rfl
          have hm' : ((s1.upd ups nx).put o.dst r).m = s.m := by rw [← e5]; cases o.dst <;> rfl
          have hdirty : ((s1.upd ups nx).put o.dst r).dirty = addDirty s.m ups s.dirty := by rw [← e5, ← e6]; cases o.dst <;> rfl
          have hs2 : StOk ((s1.upd ups nx).put o.dst r) := by
            refine ⟨by rw [hsz]; exact hs.size, by rw [hnx']; exact hnx, ?_, ?_, by rw [hm', hnx']; have := hs.m; omega⟩
            · rw [hsz, htm]
              intro t ht
              cases hod : o.dst with
              | none => simpa [updT] using hs.out t ht
              | some d =>
                rw [hod] at hdN
                have : t ≠ d := by intro e; subst e; simp only [dstN] at hdN; omega
                simp [updT, this, hs.out t ht]
            · rw [hhp, hnx']
              intro x c hx
              rcases updF_mem hx with h3 | ⟨_, h3⟩
              · exact hk _ h3
              · have := hs.dom x c h3; omega
          obtain ⟨recs, s', ht, hs', g1, g2, g3, g4, g5, g6⟩ := opsC_run os (i + 1) _ _ hs2 h2
          rw [hsz, htm, hhp, hnx'] at ht
          have dm : ∀ (l : List (Nat × Option Chunk)) (d : List Nat), (∀ x ∈ d, x ∈ addDirty s.m l d) ∧ (∀ x ∈ addDirty s.m l d, x ∈ d ∨ x < s.m) ∧ (∀ x, x < s.m → x ∈ l.map (·.1) → x ∈ addDirty s.m l d) := by
            intro l
            induction l with
            | nil => intro d; exact ⟨fun x hx => hx, fun x hx => .inl hx, fun x _ hx => by cases hx⟩
            | cons p l ih =>
              obtain ⟨y, c⟩ := p
              intro d
              simp only [addDirty]
              obtain ⟨i1, i2, i3⟩ := ih (bif Nat.blt y s.m && !memN y d then y :: d else d)
              have hcase : ∀ x, x ∈ (bif Nat.blt y s.m && !memN y d then y :: d else d) ↔ x ∈ d ∨ (x = y ∧ y < s.m) := by
                intro x
                cases h1 : Nat.blt y s.m with
                | false =>
                  have : ¬ y < s.m := by intro hh; rw [← Nat.blt_eq] at hh; rw [hh] at h1; cases h1
                  simp [this]
                | true =>
                  have hy : y < s.m := by rw [Nat.blt_eq] at h1; exact h1
                  cases h2 : memN y d with
                  | true =>
                    have := (memN_iff y d).1 h2
                    simp only [Bool.not_true, Bool.and_false, cond_false]
                    constructor
                    · exact fun h => .inl h
                    · rintro (h | ⟨rfl, _⟩)
                      · exact h
                      · exact this
                  | false => simp [hy, or_comm]
              refine ⟨fun x hx => i1 x ((hcase x).2 (.inl hx)), fun x hx => ?_, fun x hxm hx => ?_⟩
              · rcases i2 x hx with h3 | h3
                · rcases (hcase x).1 h3 with h4 | ⟨rfl, h4⟩
                  · exact .inl h4
                  · exact .inr h4
                · exact .inr h3
              · simp only [List.map_cons, List.mem_cons] at hx
                rcases hx with rfl | hx
                · exact i1 x ((hcase x).2 (.inr ⟨rfl, hxm⟩))
                · exact i3 x hxm hx
          obtain ⟨d1, d2, d3⟩ := dm ups s.dirty
          rw [hdirty] at g4 g5
          rw [hhp, hm'] at g3
          rw [hm'] at g5
          refine ⟨_ :: recs, s', .run hdN hw hm ht, hs', by rw [g1, hsz], by rw [g2, hm'], ?_, fun x hx => g4 x (d1 x hx), fun x hx => ?_, ?_⟩
          · intro x hx
            rcases g3 x hx with h3 | h3
            · by_cases hxk : x ∈ ups.map (·.1)
              · exact .inr (g4 x (d3 x hx hxk))
              · left; rw [h3, updF_not hxk]
            · exact .inr h3
          · rcases g5 x hx with h3 | h3
            · exact d2 x h3
            · exact .inr h3
          · simpa [feet] using g6
      | false =>
        simp only [cond_false] at h1
        have htm : (s1.put o.dst (.tup [])).tmp = updT s.tmp o.dst (.tup []) := by
          rw [tmp_put (by rw [e4]; exact hdN) hs1.size, e1]
        have hsz : (s1.put o.dst (.tup [])).size = s.size := by rw [← e4]; cases o.dst <;> rfl
        have hhp : (s1.put o.dst (.tup [])).hp = s.hp := by rw [← e2]; cases o.dst <;> rfl
        have hnx' : (s1.put o.dst (.tup [])).nx = s.nx := by rw [← e3]; cases o.dst <;> rfl
        have hm' : (s1.put o.dst (.tup [])).m = s.m := by rw [← e5]; cases o.dst <;> rfl
        have hdirty : (s1.put o.dst (.tup [])).dirty = s.dirty := by rw [← e6]; cases o.dst <;> rfl
        have hs2 : StOk (s1.put o.dst (.tup [])) := by
          refine ⟨by rw [hsz]; exact hs.size, by rw [hnx']; exact hs.nx, ?_, by rw [hhp, hnx']; exact hs.dom, by rw [hm', hnx']; exact hs.m⟩
          rw [hsz, htm]
          intro t ht
          cases hod : o.dst with
          | none => simpa [updT] using hs.out t ht
          | some d =>
            rw [hod] at hdN
            have : t ≠ d := by intro e; subst e; simp only [dstN] at hdN; omega
            simp [updT, this, hs.out t ht]
        obtain ⟨recs, s', ht, hs', g1, g2, g3, g4, g5, g6⟩ := opsC_run os (i + 1) _ _ hs2 h1
        rw [hsz, htm, hhp, hnx'] at ht
        rw [hhp, hm'] at g3
        rw [hdirty] at g4 g5
        rw [hm'] at g5
        exact ⟨_ :: recs, s', .skip hdN hw ht, hs', by rw [g1, hsz], by rw [g2, hm'], g3, g4, g5, by simpa [feet] using g6⟩

/-- What holds while a body runs: 's' tells of the frame and of the world. -/
structure Sim (P : Program) (h0 : HpF) (w0 : World) (Im0 : Nat → Prop) (θ0 : Th) (s : St) (a : Act) (w : World) (Im : Nat → Prop) (θ : Th) : Prop where
  ok : StOk s
  sf : SimF P s.size s.tmp s.hp.get a w Im θ
  fr : Fr s.nx θ s.hp.get
  ext : Ext (fun x => s.m ≤ x) h0 w0 Im0 θ0 s.hp.get w Im θ
  same : ∀ x, x < s.m → s.hp.get x = h0 x ∨ x ∈ s.dirty
  low : ∀ x ∈ s.dirty, x < s.m

def exitOf : Ex → Exit
  | .normal => .normal
  | .exit id => .exit id
  | .ret => .ret

/-- The code comes to 'e' with the state 's2', from whatever world the state tells of. -/
def Comes (P : Program) (h0 : HpF) (w0 : World) (Im0 : Nat → Prop) (θ0 : Th) (c : Code) (s : St) (e : Ex) (s2 : St) : Prop :=
  s2.size = s.size ∧ s2.m = s.m ∧ ∀ (Q : Exit → Act → World → Prop) (a : Act) (w : World) (Im : Nat → Prop) (θ : Th), Sim P h0 w0 Im0 θ0 s a w Im θ →
    (∀ a' w' Im' θ', Sim P h0 w0 Im0 θ0 s2 a' w' Im' θ' → Q (exitOf e) a' w') → c.wp P Q a w

def drewOf (w : World) : World := { w with drawn := w.drawn + 1 }
theorem drew_same {Im : Nat → Prop} {w : World} : ∀ b, Im b → Im b ∧ (drewOf w).heap[b]? = w.heap[b]? := fun _ hb => ⟨hb, rfl⟩
theorem SimF.drew {n : Nat} {T : Nat → SV} {h : HpF} {a : Act} {w : World} {Im : Nat → Prop} {θ : Th} (s : SimF P n T h a w Im θ) : SimF P n T h a (drewOf w) Im θ := by
  refine ⟨s.size, fun t ht => (s.tm t ht).mono drew_same (fun _ _ h => h), s.out, s.df, ?_⟩
  exact ⟨fun x c hx => (s.hp.at_ x c hx).mono drew_same (fun _ _ h => h) rfl (fun _ _ _ => rfl), s.hp.inj, s.hp.own, s.hp.im⟩
theorem Ext.drew {new : Nat → Prop} {h : HpF} {w : World} {Im : Nat → Prop} {θ : Th} : Ext new h w Im θ h (drewOf w) Im θ where
  thOld _ _ := rfl
  thUp _ _ h := h
  imUp _ h := h
  size := Nat.le_refl _
  keep _ _ _ := rfl
  imNew _ h := .inl h
  ownNew x c b N h1 h2 := .inl ⟨x, c, N, h1, h2⟩
  os := rfl
  output := rfl
  tape := rfl

theorem cnt_le_n (D : Nat → Bool) : ∀ n, cnt D n ≤ n
  | 0 => Nat.le_refl _
  | n + 1 => by have := cnt_le_n D n; simp only [cnt]; split <;> omega

theorem regionB_run {κ : Nat → Option CSumm} (hκ : KOk P κ) (hmix : P.follows .mixedOrders = true) {h0 : HpF} {w0 : World} {Im0 : Nat → Prop} {θ0 : Th} {id : Nat} {ops : Array Oper} {draw : Bool} {s : St} {k : St → Tree} {N : Nat} {res : Leaf} (hs : StOk s)
    (h : runT P κ N (regionB P κ ops draw k s) = some res) : ∃ s', StOk s' ∧ Comes P h0 w0 Im0 θ0 (.region id ops draw) s .normal s' ∧ runT P κ N (k s') = some res := by
  have same : ∀ (s' : St), (∀ x, x < s.m → s'.hp.get x = s.hp.get x ∨ x ∈ s'.dirty) → (∀ x ∈ s.dirty, x ∈ s'.dirty) → (∀ x ∈ s'.dirty, x ∈ s.dirty ∨ x < s.m) → s'.m = s.m →
      (∀ x, x < s.m → s.hp.get x = h0 x ∨ x ∈ s.dirty) → (∀ x ∈ s.dirty, x < s.m) → (∀ x, x < s'.m → s'.hp.get x = h0 x ∨ x ∈ s'.dirty) ∧ ∀ x ∈ s'.dirty, x < s'.m := by
    intro s' g3 g4 g5 gm hsame hlow
    rw [gm]
    refine ⟨fun x hx => ?_, fun x hx => ?_⟩
    · rcases g3 x hx with h1 | h1
      · rcases hsame x hx with h2 | h2
        · exact .inl (h1.trans h2)
        · exact .inr (g4 x h2)
      · exact .inr h1
    · rcases g5 x hx with h1 | h1
      · exact hlow x h1
      · exact h1
  unfold regionB at h
  cases draw with
  | false =>
    simp only [cond_false] at h
    obtain ⟨recs, s', ht, hs', g1, g2, g3, g4, g5, g6⟩ := opsC_run _ _ _ _ hs h
    refine ⟨s', hs', ⟨g1, g2, fun Q a w Im θ sim hQ => ?_⟩, g6⟩
    refine wp_region ?_
    have hsnd := seq_sound (P := P) hκ (nx0 := s.m) (Q := Q) ht 0 a w Im θ (by simp) sim.sf sim.fr hs.m (w0 := w0) (Im0 := Im0) (θ0 := θ0) (h0 := h0) sim.ext (fun a' w' Im' θ' hS hF hn hE => by
      have hsm := same s' g3 g4 g5 g2 sim.same sim.low
      exact hQ a' w' Im' θ' ⟨hs', by rw [g1]; exact hS, hF, by rw [g2]; exact hE, hsm.1, hsm.2⟩)
    simpa [List.range_eq_range'] using hsnd
  | true =>
    simp only [cond_true] at h
    cases hst : staticOk ops.toList (befAll ops.toList []) [] ops.toList 0 with
    | false => rw [hst] at h; exact (runT_fail h).elim
    | true =>
      rw [hst] at h
      simp only [cond_true] at h
      obtain ⟨recs, s', ht, hs', g1, g2, g3, g4, g5, g6⟩ := opsC_run _ _ _ _ hs h
      cases hf : footsOk (befAll ops.toList []) (feet 0 recs []) with
      | false => rw [hf] at g6; exact (runT_fail g6).elim
      | true =>
        rw [hf] at g6
        simp only [cond_true] at g6
        refine ⟨s', hs', ⟨g1, g2, fun Q a w Im θ sim hQ => ?_⟩, g6⟩
        refine wp_region_any hmix ?_
        have hS := sim.sf.drew
        have hE := sim.ext.trans (Ext.drew (new := fun x => s.m ≤ x))
        have hz : ∀ j, 0 ≤ j → (fun _ : Nat => false) j = false := fun _ _ => rfl
        refine any_sound (P := P) hκ (all := ops.toList) (nxs := s.m) ht hs.dom hs.m (static_of hst) hf (Q := Q) (hs := h0) (ws := w0) (Ims := Im0) (θs := θ0) ?_ ops.size (fun _ => false) (Array.replicate ops.size false) a (drewOf w) Im θ ?_ (by simp) ?_ (fun _ _ => rfl) (fun i hi => by cases hi) ?_ ?_ ?_
        · intro a' w' Im' θ' hS' hF hn hE'
          have hsm := same s' g3 g4 g5 g2 sim.same sim.low
          exact hQ a' w' Im' θ' ⟨hs', by rw [g1]; exact hS', hF, by rw [g2]; exact hE', hsm.1, hsm.2⟩
        · have := cnt_le_n (fun _ => false) ops.toList.length
          simpa using this
        · intro i hi
          simp at hi
          simp [hi]
        · rw [TD_none _ _ _ _ hz, HD_none _ _ _ _ hz]; exact hS
        · intro x hx
          left
          rw [HD_none _ _ _ _ hz] at hx
          rcases Nat.lt_or_ge x s.nx with h1 | h1
          · exact h1
          · obtain ⟨f1, f2⟩ := sim.fr x h1
            rcases hx with hx | hx
            · exact absurd f1 hx
            · exact absurd f2 hx
        · rw [HD_none _ _ _ _ hz]; exact hE

theorem region_run {κ : Nat → Option CSumm} (hκ : KOk P κ) (hmix : P.follows .mixedOrders = true) {h0 : HpF} {w0 : World} {Im0 : Nat → Prop} {θ0 : Th} {id : Nat} {ops : Array Oper} {draw : Bool} {s : St} {k : St → Tree} {N : Nat} {res : Leaf} (hs : StOk s)
    (h : runT P κ N (regionC P κ ops draw k s) = some res) : ∃ s', StOk s' ∧ Comes P h0 w0 Im0 θ0 (.region id ops draw) s .normal s' ∧ runT P κ N (k s') = some res := by
  unfold regionC at h
  cases hsp : specRun P κ ops.toList draw s with
  | none =>
    simp only [hsp] at h
    exact regionB_run hκ hmix hs h
  | some s' =>
    simp only [hsp] at h
    obtain ⟨hst, recs, Ta, ht, hups, hs', g1, g2, g3, g4, g5, g6⟩ := specRun_run hs hsp
    have fin : ∀ {a' : Act} {w' : World} {Im' : Nat → Prop} {θ' : Th}, (∀ x, x < s.m → s.hp.get x = h0 x ∨ x ∈ s.dirty) → (∀ x ∈ s.dirty, x < s.m) → SimF P s.size Ta s.hp.get a' w' Im' θ' → Fr s.nx θ' s.hp.get → Ext (fun x => s.m ≤ x) h0 w0 Im0 θ0 s.hp.get w' Im' θ' →
        Sim P h0 w0 Im0 θ0 s' a' w' Im' θ' := by
      intro a' w' Im' θ' hsame hlow hS hF hE
      refine ⟨hs', ?_, by rw [g3, g2]; exact hF, by rw [g4, g2]; exact hE, by rw [g4, g2, g5]; exact hsame, by rw [g4, g5]; exact hlow⟩
      rw [g1, g2]
      exact hS.weaken g6
    refine ⟨s', hs', ⟨g1, g4, fun Q a w Im θ sim hQ => ?_⟩, h⟩
    cases draw with
    | false =>
      refine wp_region ?_
      have hsnd := seq_sound (P := P) hκ (nx0 := s.m) (Q := Q) ht 0 a w Im θ (by simp) sim.sf sim.fr hs.m (w0 := w0) (Im0 := Im0) (θ0 := θ0) (h0 := h0) sim.ext (fun a' w' Im' θ' hS hF hn hE =>
        hQ a' w' Im' θ' (fin sim.same sim.low hS hF hE))
      simpa [List.range_eq_range'] using hsnd
    | true =>
      refine wp_region_any hmix ?_
      have hS := sim.sf.drew
      have hE := sim.ext.trans (Ext.drew (new := fun x => s.m ≤ x))
      have hz : ∀ j, 0 ≤ j → (fun _ : Nat => false) j = false := fun _ _ => rfl
      have hf : footsOk (befAll ops.toList []) (feet 0 recs []) = true := footsOk_nil _ _ (feet_nil recs 0 [] hups (fun f h => by cases h))
      refine any_sound (P := P) hκ (all := ops.toList) (nxs := s.m) ht hs.dom hs.m (static_of (hst rfl)) hf (Q := Q) (hs := h0) (ws := w0) (Ims := Im0) (θs := θ0) ?_ ops.size (fun _ => false) (Array.replicate ops.size false) a (drewOf w) Im θ ?_ (by simp) ?_ (fun _ _ => rfl) (fun i hi => by cases hi) ?_ ?_ ?_
      · intro a' w' Im' θ' hS' hF hn hE'
        exact hQ a' w' Im' θ' (fin sim.same sim.low hS' hF hE')
      · have := cnt_le_n (fun _ => false) ops.toList.length
        simpa using this
      · intro i hi
        simp at hi
        simp [hi]
      · rw [TD_none _ _ _ _ hz, HD_none _ _ _ _ hz]; exact hS
      · intro x hx
        left
        rw [HD_none _ _ _ _ hz] at hx
        rcases Nat.lt_or_ge x s.nx with h1 | h1
        · exact h1
        · obtain ⟨f1, f2⟩ := sim.fr x h1
          rcases hx with hx | hx
          · exact absurd f1 hx
          · exact absurd f2 hx
      · rw [HD_none _ _ _ _ hz]; exact hE

/-- The code is run as its tree says. -/
theorem exec_run {κ : Nat → Option CSumm} (hκ : KOk P κ) (hmix : P.follows .mixedOrders = true) {h0 : HpF} {w0 : World} {Im0 : Nat → Prop} {θ0 : Th} :
    ∀ (N : Nat) (c : Code) (s : St) (k : Ex → St → Tree) (res : Leaf), StOk s → runT P κ N (exec P κ c s k) = some res →
      ∃ e s2 N', N' ≤ N ∧ StOk s2 ∧ Comes P h0 w0 Im0 θ0 c s e s2 ∧ runT P κ N' (k e s2) = some res := by
  intro N
  induction N using Nat.strongRecOn with
  | _ N ihN =>
    intro c
    induction c with
    | skip =>
      intro s k res hs h
      exact ⟨.normal, s, N, Nat.le_refl _, hs, ⟨rfl, rfl, fun Q a w Im θ sim hQ => wp_skip (hQ a w Im θ sim)⟩, h⟩
    | region id ops draw =>
      intro s k res hs h
      obtain ⟨s', hs', hc, h1⟩ := region_run (h0 := h0) (w0 := w0) (Im0 := Im0) (θ0 := θ0) (id := id) hκ hmix hs h
      exact ⟨.normal, s', N, Nat.le_refl _, hs', hc, h1⟩
    | seq x y ihx ihy =>
      intro s k res hs h
      simp only [exec] at h
      obtain ⟨e, s1, N1, hN1, hs1, hc1, h1⟩ := ihx s _ res hs h
      cases e with
      | normal =>
        simp only [] at h1
        rcases Nat.lt_or_eq_of_le hN1 with hlt | rfl
        · obtain ⟨e2, s2, N2, hN2, hs2, hc2, h2⟩ := ihN N1 hlt y s1 k res hs1 h1
          refine ⟨e2, s2, N2, by omega, hs2, ⟨by rw [hc2.1, hc1.1], by rw [hc2.2.1, hc1.2.1], fun Q a w Im θ sim hQ => wp_seq (hc1.2.2 _ a w Im θ sim (fun a' w' Im' θ' sim' => ?_))⟩, h2⟩
          exact hc2.2.2 Q a' w' Im' θ' sim' hQ
        · obtain ⟨e2, s2, N2, hN2, hs2, hc2, h2⟩ := ihy s1 k res hs1 h1
          refine ⟨e2, s2, N2, hN2, hs2, ⟨by rw [hc2.1, hc1.1], by rw [hc2.2.1, hc1.2.1], fun Q a w Im θ sim hQ => wp_seq (hc1.2.2 _ a w Im θ sim (fun a' w' Im' θ' sim' => ?_))⟩, h2⟩
          exact hc2.2.2 Q a' w' Im' θ' sim' hQ
      | exit id =>
        exact ⟨.exit id, s1, N1, hN1, hs1, ⟨hc1.1, hc1.2.1, fun Q a w Im θ sim hQ => wp_seq (hc1.2.2 _ a w Im θ sim (fun a' w' Im' θ' sim' => hQ a' w' Im' θ' sim'))⟩, h1⟩
      | ret =>
        exact ⟨.ret, s1, N1, hN1, hs1, ⟨hc1.1, hc1.2.1, fun Q a w Im θ sim hQ => wp_seq (hc1.2.2 _ a w Im θ sim (fun a' w' Im' θ' sim' => hQ a' w' Im' θ' sim'))⟩, h1⟩
    | cond c x y ihx ihy =>
      intro s k res hs h
      simp only [exec] at h
      split at h
      · rename_i b hb
        have hev : ∀ {a : Act} {w : World} {Im : Nat → Prop} {θ : Th}, Sim P h0 w0 Im0 θ0 s a w Im θ → a.eval c = .bool b := by
          intro a w Im θ sim
          have := sim.sf.eval c
          rw [← evT_ev, hb] at this
          generalize a.eval c = u at this
          cases this
          rfl
        cases b with
        | true =>
          obtain ⟨e, s1, N1, hN1, hs1, hc1, h1⟩ := ihx s k res hs h
          exact ⟨e, s1, N1, hN1, hs1, ⟨hc1.1, hc1.2.1, fun Q a w Im θ sim hQ => wp_cond_true (hev sim) (hc1.2.2 Q a w Im θ sim hQ)⟩, h1⟩
        | false =>
          obtain ⟨e, s1, N1, hN1, hs1, hc1, h1⟩ := ihy s k res hs h
          exact ⟨e, s1, N1, hN1, hs1, ⟨hc1.1, hc1.2.1, fun Q a w Im θ sim hQ => wp_cond_false (hev sim) (hc1.2.2 Q a w Im θ sim hQ)⟩, h1⟩
      · exact (runT_fail h).elim
    | block id c ih =>
      intro s k res hs h
      simp only [exec] at h
      obtain ⟨e, s1, N1, hN1, hs1, hc1, h1⟩ := ih s _ res hs h
      cases e with
      | normal => exact ⟨.normal, s1, N1, hN1, hs1, ⟨hc1.1, hc1.2.1, fun Q a w Im θ sim hQ => wp_block (hc1.2.2 _ a w Im θ sim hQ)⟩, h1⟩
      | ret => exact ⟨.ret, s1, N1, hN1, hs1, ⟨hc1.1, hc1.2.1, fun Q a w Im θ sim hQ => wp_block (hc1.2.2 _ a w Im θ sim hQ)⟩, h1⟩
      | exit j =>
        simp only [] at h1
        cases hj : Nat.beq j id with
        | true =>
          rw [hj] at h1
          have hji : j = id := Nat.eq_of_beq_eq_true hj
          subst hji
          refine ⟨.normal, s1, N1, hN1, hs1, ⟨hc1.1, hc1.2.1, fun Q a w Im θ sim hQ => wp_block (hc1.2.2 _ a w Im θ sim (fun a' w' Im' θ' sim' => ?_))⟩, h1⟩
          simp only [exitOf, Exit.inBlock, if_true]
          exact hQ a' w' Im' θ' sim'
        | false =>
          rw [hj] at h1
          have hji : ¬ j = id := fun e => by rw [nb_t e] at hj; cases hj
          refine ⟨.exit j, s1, N1, hN1, hs1, ⟨hc1.1, hc1.2.1, fun Q a w Im θ sim hQ => wp_block (hc1.2.2 _ a w Im θ sim (fun a' w' Im' θ' sim' => ?_))⟩, h1⟩
          simp only [exitOf, Exit.inBlock, if_neg hji]
          exact hQ a' w' Im' θ' sim'
    | loop c ih =>
      intro s k res hs h
      simp only [exec] at h
      have key : ∀ (M : Nat), M ≤ N → ∀ (s : St) (res : Leaf), StOk s → runT P κ M (.loop c s k) = some res →
          ∃ e s2 M' n, M' ≤ M ∧ StOk s2 ∧ s2.size = s.size ∧ s2.m = s.m ∧ (∀ (Q : Exit → Act → World → Prop) (a : Act) (w : World) (Im : Nat → Prop) (θ : Th), Sim P h0 w0 Im0 θ0 s a w Im θ →
            (∀ a' w' Im' θ', Sim P h0 w0 Im0 θ0 s2 a' w' Im' θ' → Q (exitOf e) a' w') → Code.rounds P c Q n a w) ∧ runT P κ M' (k e s2) = some res := by
        intro M
        induction M with
        | zero => intro _ s res _ h; simp [runT] at h
        | succ M ihM =>
          intro hMN s res hs h
          simp only [runT] at h
          cases hr : runT P κ M (exec P κ c s .at_) with
          | none => simp [hr] at h
          | some lf =>
            cases lf with
            | out v u => simp [hr] at h
            | at_ e0 s0 =>
              obtain ⟨e1, s1, N1, hN1, hs1, hc1, h1⟩ := ihN M (by omega) c s .at_ _ hs hr
              have he : e1 = e0 ∧ s1 = s0 := by
                cases N1 <;> simpa [runT] using h1
              obtain ⟨rfl, rfl⟩ := he
              cases e1 with
              | normal =>
                simp only [hr] at h
                obtain ⟨e2, s2, M2, n, hM2, hs2, g1, g2, hc2, h2⟩ := ihM (by omega) s1 res hs1 h
                refine ⟨e2, s2, M2, n + 1, by omega, hs2, by rw [g1, hc1.1], by rw [g2, hc1.2.1], fun Q a w Im θ sim hQ => ?_, h2⟩
                rw [rounds_succ]
                exact hc1.2.2 _ a w Im θ sim (fun a' w' Im' θ' sim' => hc2 Q a' w' Im' θ' sim' hQ)
              | exit j =>
                simp only [hr] at h
                refine ⟨.exit j, s1, M, 1, by omega, hs1, hc1.1, hc1.2.1, fun Q a w Im θ sim hQ => ?_, h⟩
                rw [rounds_succ]
                exact hc1.2.2 _ a w Im θ sim (fun a' w' Im' θ' sim' => hQ a' w' Im' θ' sim')
              | ret =>
                simp only [hr] at h
                refine ⟨.ret, s1, M, 1, by omega, hs1, hc1.1, hc1.2.1, fun Q a w Im θ sim hQ => ?_, h⟩
                rw [rounds_succ]
                exact hc1.2.2 _ a w Im θ sim (fun a' w' Im' θ' sim' => hQ a' w' Im' θ' sim')
      obtain ⟨e, s2, M', n, hM', hs2, g1, g2, hc, h2⟩ := key N (Nat.le_refl _) s res hs h
      exact ⟨e, s2, M', hM', hs2, ⟨g1, g2, fun Q a w Im θ sim hQ => wp_loop_rounds n (hc Q a w Im θ sim hQ)⟩, h2⟩
    | exit id =>
      intro s k res hs h
      exact ⟨.exit id, s, N, Nat.le_refl _, hs, ⟨rfl, rfl, fun Q a w Im θ sim hQ => wp_exit (hQ a w Im θ sim)⟩, h⟩
    | label l =>
      intro s k res hs h
      exact ⟨.normal, s, N, Nat.le_refl _, hs, ⟨rfl, rfl, fun Q a w Im θ sim hQ => wp_label (hQ a w Im θ sim)⟩, h⟩
    | ret =>
      intro s k res hs h
      exact ⟨.ret, s, N, Nat.le_refl _, hs, ⟨rfl, rfl, fun Q a w Im θ sim hQ => wp_ret (hQ a w Im θ sim)⟩, h⟩
    | rangeFunc f ps x y _ _ => intro s k res hs h; exact (runT_fail h).elim
    | scope c _ => intro s k res hs h; exact (runT_fail h).elim
    | goto l => intro s k res hs h; exact (runT_fail h).elim
    | refuse w => intro s k res hs h; exact (runT_fail h).elim

end Go.Am
