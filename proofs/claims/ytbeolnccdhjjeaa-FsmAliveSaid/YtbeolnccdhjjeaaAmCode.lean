/- The abstract machine: code. -/
import Derived.Test.YtbeolnccdhjjeaaAmLoop
import Derived.LoopNIn
namespace Go.Am
variable {P : Program} {ω : Nat → Value}

theorem upsTr_get : ∀ (l : List (Nat × Option Chunk)) (h : Tr Chunk), (∀ p ∈ l, p.1 < 1000000) → (upsTr l h).get = updF l h.get
  | [], _, _ => rfl
  | (x, c) :: l, h, hl => by
    simp only [upsTr, updF]
    rw [upsTr_get l _ (fun p hp => hl p (by simp [hp]))]
    congr 1
    funext y
    rw [Tr.get_set 20 h x c y (by have := hl (x, c) (by simp); simp at this; omega)]

/- What a state says of the model's. -/
structure Sim (P : Program) (ω : Nat → Value) (ρ : Option Nat) (s : St) (a : Act) (w : World) (Im : Nat → Prop) (θ : Th) : Prop where
  ok : StOk s
  sf : SimF P ω s.size s.tmp s.hp.get a w Im θ
  fr : Fr s.nx θ s.hp.get
  rd : (s.rd = none ∧ ρ = none) ∨ ∃ y b N, s.rd = some y ∧ θ y = some (b, N) ∧ ρ = some b

def mark (r : Nat) : Deferred := { target := .collected r, args := #[] }
def New (a a' : Act) (w : World) : Prop := ∃ rs : List Nat, a'.defers = rs.map mark ++ a.defers ∧ ∀ r ∈ rs, w.heap.size ≤ r
theorem New.refl {a a' : Act} {w : World} (h : a'.defers = a.defers) : New a a' w := ⟨[], by simpa using h, fun r hr => by cases hr⟩
theorem New.trans {a a' a'' : Act} {w w' : World} (h : New a a' w) (h' : New a' a'' w') (hs : w.heap.size ≤ w'.heap.size) : New a a'' w := by
  obtain ⟨rs, h1, h2⟩ := h
  obtain ⟨rs', h3, h4⟩ := h'
  refine ⟨rs' ++ rs, by rw [h3, h1]; simp, fun r hr => ?_⟩
  rcases List.mem_append.1 hr with h5 | h5
  · have := h4 r h5; omega
  · exact h2 r h5

structure Later (s s2 : St) : Prop where
  m : s2.m = s.m
  nx : s.nx ≤ s2.nx
  same : ∀ x, x < s.m → s2.hp.get x = s.hp.get x ∨ x ∈ s2.dirty
  up : ∀ x ∈ s.dirty, x ∈ s2.dirty
  low : ∀ x ∈ s2.dirty, x ∈ s.dirty ∨ x < s.m
theorem Later.refl (s : St) : Later s s := ⟨rfl, Nat.le_refl _, fun _ _ => .inl rfl, fun _ h => h, fun _ h => .inl h⟩
theorem Later.of {s s2 : St} (h1 : s2.m = s.m) (h2 : s2.nx = s.nx) (h3 : s2.hp = s.hp) (h4 : s2.dirty = s.dirty) : Later s s2 :=
  ⟨h1, by rw [h2]; exact Nat.le_refl _, fun _ _ => .inl (by rw [h3]), fun _ h => by rw [h4]; exact h, fun _ h => .inl (by rw [← h4]; exact h)⟩
theorem Later.trans {a b c : St} (h : Later a b) (k : Later b c) : Later a c := by
  refine ⟨k.m.trans h.m, Nat.le_trans h.nx k.nx, fun x hx => ?_, fun x hx => k.up x (h.up x hx), fun x hx => ?_⟩
  · rcases k.same x (by rw [h.m]; exact hx) with h1 | h1
    · rcases h.same x hx with h2 | h2
      · exact .inl (h1.trans h2)
      · exact .inr (k.up x h2)
    · exact .inr h1
  · rcases k.low x hx with h1 | h1
    · exact h.low x h1
    · exact .inr (by rw [← h.m]; exact h1)

def exitOf : Ex → Exit
  | .normal => .normal
  | .exit id => .exit id
  | .ret => .ret

/-- K holds of whatever the state s2 tells of, behind (a, w). -/
def After (P : Program) (ω : Nat → Value) (ρ : Option Nat) (s s2 : St) (a : Act) (w : World) (Im : Nat → Prop) (θ : Th) (K : Act → World → Prop) : Prop :=
  ∀ a' w' Im' θ', Sim P ω ρ s2 a' w' Im' θ' → Ext (fun x => s.nx ≤ x) s.hp.get w Im θ s2.hp.get w' Im' θ' → New a a' w → K a' w'

theorem After.trans {ρ : Option Nat} {s s1 s2 : St} {a a1 : Act} {w w1 : World} {Im Im1 : Nat → Prop} {θ θ1 : Th} {K : Act → World → Prop} (hl : Later s s1)
    (hE : Ext (fun x => s.nx ≤ x) s.hp.get w Im θ s1.hp.get w1 Im1 θ1) (hN : New a a1 w) (h : After P ω ρ s s2 a w Im θ K) : After P ω ρ s1 s2 a1 w1 Im1 θ1 K :=
  fun a' w' Im' θ' sim hE' hN' => h a' w' Im' θ' sim (hE.trans (hE'.mono (fun _ hx => Nat.le_trans hl.nx hx))) (hN.trans hN' hE.size)

/-- What the walk of code asks; of a loop: m rounds. -/
def W (P : Program) (ρ : Option Nat) (m : Nat) (c : Code) (Q : Exit → Act → World → Prop) (a : Act) (w : World) : Prop :=
  match c with
  | .loop b => Code.roundsIn (FR ρ) 0 P b Q m a w
  | c => c.wpIn (FR ρ) 0 P Q a w
theorem W.wp {ρ : Option Nat} {m : Nat} {c : Code} {Q : Exit → Act → World → Prop} {a : Act} {w : World} (h : W P ρ m c Q a w) : c.wpIn (FR ρ) 0 P Q a w := by
  cases c with
  | loop b => exact wpIn_loop_rounds m h
  | _ => exact h

/-- The code comes to 'e' with the state 's2', from whatever world the state tells of. -/
structure Comes (P : Program) (c : Code) (s : St) (e : Ex) (s2 : St) : Prop where
  later : Later s s2
  size : s2.size = s.size
  rd : s2.rd = s.rd
  wps : ∃ m, ∀ (ω : Nat → Value) (ρ : Option Nat) (Q : Exit → Act → World → Prop) (a : Act) (w : World) (Im : Nat → Prop) (θ : Th), Sim P ω ρ s a w Im θ → After P ω ρ s s2 a w Im θ (Q (exitOf e)) → W P ρ m c Q a w
theorem Comes.wp {c : Code} {s s2 : St} {e : Ex} (h : Comes P c s e s2) (ρ : Option Nat) (Q : Exit → Act → World → Prop) (a : Act) (w : World) (Im : Nat → Prop) (θ : Th) (sim : Sim P ω ρ s a w Im θ) (hA : After P ω ρ s s2 a w Im θ (Q (exitOf e))) : c.wpIn (FR ρ) 0 P Q a w := by
  obtain ⟨m, hm⟩ := h.wps
  exact (hm ω ρ Q a w Im θ sim hA).wp

def RcrOk {R D : Type} (P : Program) (den : R → Option D) (rec : Rcr R) : Prop :=
  ∀ (c : Code) (s : St) (k : Ex → St → R) (d : D), StOk s → den (rec c s k) = some d → ∃ e s2, StOk s2 ∧ Comes P c s e s2 ∧ den (k e s2) = some d

section
variable {R D : Type} {fl : R} {den : R → Option D} (hfl : den fl = none)
include hfl

theorem fl_no {d : D} (h : den fl = some d) : False := by rw [hfl] at h; cases h

theorem interp_run {h : Tr Chunk} {k : SV → List (Nat × Option Chunk) → Nat → List Nat → R} {d : D} : ∀ (m : OpM) (rs : List Nat), den (interpR fl h k m rs) = some d →
    ∃ r ups nx rs', mrun h.get m = some (r, ups, nx, rs') ∧ den (k r ups nx (rs ++ rs')) = some d
  | .done r ups nx, rs, hm => ⟨r, ups, nx, [], rfl, by simpa [interpR] using hm⟩
  | .get x f, rs, hm => by
    simp only [interpR] at hm
    cases hx : h.get x with
    | none => simp only [hx] at hm; exact (fl_no hfl hm).elim
    | some c =>
      simp only [hx] at hm
      obtain ⟨r, ups, nx, rs', h1, h2⟩ := interp_run (f c) _ hm
      exact ⟨r, ups, nx, x :: rs', by simp [mrun, hx, h1], by simpa using h2⟩
  | .ite b t e, rs, hm => by
    simp only [interpR] at hm
    cases b
    · simp only [cond_false] at hm
      obtain ⟨r, ups, nx, rs', h1, h2⟩ := interp_run e _ hm
      exact ⟨r, ups, nx, rs', by simp [mrun, h1], h2⟩
    · simp only [cond_true] at hm
      obtain ⟨r, ups, nx, rs', h1, h2⟩ := interp_run t _ hm
      exact ⟨r, ups, nx, rs', by simp [mrun, h1], h2⟩
  | .fail, rs, hm => (fl_no hfl hm).elim

omit hfl in
theorem dstOk_N {s : St} {d : Option Nat} (h : dstOk s d = true) : dstN s.size d := by
  cases d with
  | none => trivial
  | some d => simp only [dstOk] at h; rw [Nat.blt_eq] at h; exact h

omit hfl in
structure Alike (s s1 : St) : Prop where
  tmp : s1.tmp = s.tmp
  hp : s1.hp = s.hp
  nx : s1.nx = s.nx
  size : s1.size = s.size
  m : s1.m = s.m
  dirty : s1.dirty = s.dirty
  rd : s1.rd = s.rd

omit hfl in
theorem Alike.ok {s s1 : St} (h : Alike s s1) (hs : StOk s) : StOk s1 :=
  ⟨by rw [h.size]; exact hs.size, by rw [h.nx]; exact hs.nx, by rw [h.size, h.tmp]; exact hs.out, by rw [h.hp, h.nx]; exact hs.dom, by rw [h.nx, h.m]; exact hs.m⟩
omit hfl in
theorem Alike.sim {ρ : Option Nat} {s s1 : St} {a : Act} {w : World} {Im : Nat → Prop} {θ : Th} (h : Alike s s1) (sim : Sim P ω ρ s a w Im θ) : Sim P ω ρ s1 a w Im θ :=
  ⟨h.ok sim.ok, by rw [h.size, h.tmp, h.hp]; exact sim.sf, by rw [h.nx, h.hp]; exact sim.fr, by rw [h.rd]; exact sim.rd⟩
omit hfl in
theorem Alike.later {s s1 : St} (h : Alike s s1) : Later s s1 := Later.of h.m h.nx h.hp h.dirty

theorem guard_run {all : List Oper} {s : St} {k : St → Bool → R} {o : Oper} {d : D} (hs : s.size < 16000) (h : den (guardR fl all s k o.guard) = some d) :
    ∃ s1 go, Alike s s1 ∧ wantedT all s.size s.tmp o = some go ∧ den (k s1 go) = some d := by
  unfold guardR at h
  unfold wantedT
  have self : Alike s s := ⟨rfl, rfl, rfl, rfl, rfl, rfl, rfl⟩
  cases hg : o.guard with
  | none =>
    rw [hg] at h
    exact ⟨s, true, self, rfl, h⟩
  | some p =>
    obtain ⟨j, want⟩ := p
    rw [hg] at h
    simp only [nth?_eq] at h
    simp only []
    cases hj : all[j]? with
    | none => simp only [hj] at h; exact (fl_no hfl h).elim
    | some oj =>
      simp only [hj] at h ⊢
      cases hd : oj.dst with
      | none => simp only [hd] at h; exact (fl_no hfl h).elim
      | some d =>
        simp only [hd] at h ⊢
        split at h
        · rename_i b hb
          cases hlt : Nat.blt d s.size with
          | false => rw [hlt] at h; exact (fl_no hfl h).elim
          | true =>
            rw [hlt] at h
            have hdn : d < s.size := by rw [Nat.blt_eq] at hlt; exact hlt
            simp only [hdn, if_true, hb]
            have ht : ∀ c, c = b → (s.put (some d) (.bool c)).tmp = s.tmp := by
              intro c hc
              rw [tmp_put (show dstN s.size (some d) from hdn) hs]
              funext t
              by_cases e : t = d
              · subst e; simp [updT, hb, hc]
              · simp [updT, e]
            cases b
            · simp only [cond_true, cond_false] at h
              exact ⟨_, !want, ⟨ht false rfl, rfl, rfl, rfl, rfl, rfl, rfl⟩, by cases want <;> rfl, h⟩
            · simp only [cond_true] at h
              exact ⟨_, want, ⟨ht true rfl, rfl, rfl, rfl, rfl, rfl, rfl⟩, by cases want <;> rfl, h⟩
        · rename_i hb
          cases hlt : Nat.blt d s.size with
          | false => rw [hlt] at h; exact (fl_no hfl h).elim
          | true =>
            rw [hlt] at h
            have hdn : d < s.size := by rw [Nat.blt_eq] at hlt; exact hlt
            simp only [hdn, if_true, hb]
            simp only [cond_true] at h
            exact ⟨s, false, self, rfl, h⟩
        · exact (fl_no hfl h).elim
end

/- Updating a state. -/
theorem addDirty_spec (m : Nat) : ∀ (l : List (Nat × Option Chunk)) (d : List Nat), (∀ x ∈ d, x ∈ addDirty m l d) ∧ (∀ x ∈ addDirty m l d, x ∈ d ∨ x < m) ∧ (∀ x, x < m → x ∈ l.map (·.1) → x ∈ addDirty m l d) := by
  intro l
  induction l with
  | nil => intro d; exact ⟨fun x hx => hx, fun x hx => .inl hx, fun x _ hx => by cases hx⟩
  | cons p l ih =>
    obtain ⟨y, c⟩ := p
    intro d
    simp only [addDirty]
    obtain ⟨i1, i2, i3⟩ := ih (bif Nat.blt y m && !memN y d then y :: d else d)
    have hcase : ∀ x, x ∈ (bif Nat.blt y m && !memN y d then y :: d else d) ↔ x ∈ d ∨ (x = y ∧ y < m) := by
      intro x
      cases h1 : Nat.blt y m with
      | false =>
        have : ¬ y < m := by intro hh; rw [← Nat.blt_eq] at hh; rw [hh] at h1; cases h1
        simp [this]
      | true =>
        have hy : y < m := by rw [Nat.blt_eq] at h1; exact h1
        cases h2 : memN y d with
        | true =>
          have := (memN_iff y d).1 h2
          simp only [Bool.not_true, Bool.and_false, cond_false]
          constructor
          · exact fun h => .inl h
          · rintro (h | ⟨rfl, _⟩)
            · exact h
            · exact this
        | false => simp [hy, or_comm]
    refine ⟨fun x hx => i1 x ((hcase x).2 (.inl hx)), fun x hx => ?_, fun x hxm hx => ?_⟩
    · rcases i2 x hx with h3 | h3
      · rcases (hcase x).1 h3 with h4 | ⟨rfl, h4⟩
        · exact .inl h4
        · exact .inr h4
      · exact .inr h3
    · simp only [List.map_cons, List.mem_cons] at hx
      rcases hx with rfl | hx
      · exact i1 x ((hcase x).2 (.inr ⟨rfl, hxm⟩))
      · exact i3 x hxm hx

theorem upd_later {s : St} {ups : List (Nat × Option Chunk)} {nx : Nat} (hle : s.nx ≤ nx) (hk : ∀ p ∈ ups, p.1 < 1000000) : Later s (s.upd ups nx) := by
  obtain ⟨d1, d2, d3⟩ := addDirty_spec s.m ups s.dirty
  refine ⟨rfl, hle, fun x hx => ?_, d1, d2⟩
  show (upsTr ups s.hp).get x = _ ∨ x ∈ addDirty s.m ups s.dirty
  rw [upsTr_get _ _ hk]
  by_cases hxk : x ∈ ups.map (·.1)
  · exact .inr (d3 x hx hxk)
  · left; rw [updF_not hxk]

theorem put_hp (s : St) (d : Option Nat) (v : SV) : (s.put d v).hp = s.hp := by cases d <;> rfl
theorem put_nx (s : St) (d : Option Nat) (v : SV) : (s.put d v).nx = s.nx := by cases d <;> rfl
theorem put_m (s : St) (d : Option Nat) (v : SV) : (s.put d v).m = s.m := by cases d <;> rfl
theorem put_sz (s : St) (d : Option Nat) (v : SV) : (s.put d v).size = s.size := by cases d <;> rfl
theorem put_dirty (s : St) (d : Option Nat) (v : SV) : (s.put d v).dirty = s.dirty := by cases d <;> rfl
theorem put_rd (s : St) (d : Option Nat) (v : SV) : (s.put d v).rd = s.rd := by cases d <;> rfl

theorem put_ok {s : St} (hs : StOk s) {d : Option Nat} (hd : dstN s.size d) (v : SV) : StOk (s.put d v) := by
  refine ⟨by rw [put_sz]; exact hs.size, by rw [put_nx]; exact hs.nx, ?_, by rw [put_hp, put_nx]; exact hs.dom, by rw [put_nx, put_m]; exact hs.m⟩
  rw [put_sz, tmp_put hd hs.size]
  intro t ht
  cases d with
  | none => simpa [updT] using hs.out t ht
  | some d =>
    have : t ≠ d := by intro e; subst e; simp only [dstN] at hd; omega
    simp [updT, this, hs.out t ht]

theorem upd_ok {s : St} (hs : StOk s) {ups : List (Nat × Option Chunk)} {nx : Nat} (hle : s.nx ≤ nx) (hnx : nx < 1000000) (hk : ∀ p ∈ ups, p.1 < nx) : StOk (s.upd ups nx) := by
  refine ⟨hs.size, hnx, hs.out, ?_, Nat.le_trans hs.m hle⟩
  show ∀ x c, (upsTr ups s.hp).get x = some c → x < nx
  rw [upsTr_get _ _ (fun p hp => by have := hk p hp; omega)]
  intro x c hx
  rcases updF_mem hx with h3 | ⟨_, h3⟩
  · exact hk _ h3
  · have := hs.dom x c h3; omega

/-- A state with another frame's temporaries. -/
theorem frame_later (s s' : St) (t : Tr SV) (n : Nat) (r : Option Nat) (h : Later s s') : Later s { s' with tm := t, size := n, rd := r } := ⟨h.m, h.nx, h.same, h.up, h.low⟩

theorem argsTr_get : ∀ (args : List SV) (i : Nat) (t : Tr SV) (j : Nat), i + args.length < 16000 → (argsTr args i t).get j = if i ≤ j ∧ j < i + args.length then args[j - i]? else t.get j
  | [], i, t, j, _ => by
    have : ¬ (i ≤ j ∧ j < i + ([] : List SV).length) := by simp only [List.length_nil]; omega
    rw [if_neg this]; rfl
  | v :: vs, i, t, j, hl => by
    simp only [argsTr, List.length_cons] at hl ⊢
    rw [argsTr_get vs (i + 1) _ j (by omega)]
    rw [Tr.get_set 14 t i (some v) j (by omega)]
    by_cases h1 : i + 1 ≤ j ∧ j < i + 1 + vs.length
    · rw [if_pos h1, if_pos (by omega)]
      have : j - i = (j - (i + 1)) + 1 := by omega
      rw [this, List.getElem?_cons_succ]
    · rw [if_neg h1]
      by_cases h2 : j = i
      · subst h2
        rw [if_pos rfl, if_pos (by omega)]
        simp
      · rw [if_neg h2, if_neg (by omega)]

theorem args_tmp {args : List SV} (h : args.length < 16000) (s : St) (t : Nat) : ({ s with tm := argsTr args 0 .lf } : St).tmp t = match args[t]? with
    | some v => v
    | none => .junk := by
  simp only [St.tmp]
  rw [argsTr_get args 0 .lf t (by omega)]
  by_cases ht : t < args.length
  · rw [if_pos (by omega)]
    simp [ht]
  · rw [if_neg (by omega)]
    simp only [Tr.get_lf]
    rw [List.getElem?_eq_none (by omega)]

/-- A function's frame, entered. -/
theorem enter_ok {s : St} (hs : StOk s) {args : List SV} {n : Nat} (h1 : args.length ≤ n) (h2 : n < 16000) : StOk { s with tm := argsTr args 0 .lf, size := n, rd := none } := by
  refine ⟨h2, hs.nx, fun t ht => ?_, hs.dom, hs.m⟩
  have ht' : n ≤ t := ht
  show ({ s with tm := argsTr args 0 .lf } : St).tmp t = _
  rw [args_tmp (by omega), List.getElem?_eq_none (by omega)]

theorem enter_sim {s : St} (hs : StOk s) {args : List SV} {us : List Value} {n : Nat} (h1 : args.length ≤ n) (h2 : n < 16000) {w : World} {Im : Nat → Prop} {θ : Th} (hr : HRel P ω w Im θ s.hp.get) (hf : Fr s.nx θ s.hp.get) (hl : LRel P ω w Im θ args us) :
    Sim P ω none { s with tm := argsTr args 0 .lf, size := n, rd := none } { tmps := us.toArray ++ Array.replicate (n - us.toArray.size) undef, defers := [] } w Im θ := by
  have hul : us.length = args.length := hl.len.symm
  refine ⟨enter_ok hs h1 h2, ⟨by simp; omega, fun t ht => ?_, (enter_ok hs h1 h2).out, Mk.nil, hr⟩, hf, .inl ⟨rfl, rfl⟩⟩
  show VRel P ω w Im θ (({ s with tm := argsTr args 0 .lf } : St).tmp t) _
  rw [args_tmp (by omega)]
  by_cases ht2 : t < args.length
  · have e1 : args[t]? = some args[t] := by simp [ht2]
    rw [e1]
    refine hl.at_ t _ _ e1 ?_
    have ht3 : t < us.length := by omega
    simp [Array.getD_eq_getD_getElem?, Array.getElem?_append, ht3]
  · rw [List.getElem?_eq_none (by omega)]
    exact .junk

end Go.Am
