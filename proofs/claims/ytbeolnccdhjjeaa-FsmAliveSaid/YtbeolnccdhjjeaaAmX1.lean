/- The abstract machine: lists that grow: what becomes of the heap. -/
import Derived.Test.YtbeolnccdhjjeaaAmStep
import Derived.RangeFuncRecord
namespace Go.Am
variable {P : Program} {ω : Nat → Value}

theorem heap_lt {w : World} {b : Nat} {o : Obj} (h : w.heap[b]? = some o) : b < w.heap.size := (Array.getElem?_eq_some_iff.1 h).1
theorem updF_app (a b : List (Nat × Option Chunk)) (h : HpF) : updF (a ++ b) h = updF b (updF a h) := by
  induction a generalizing h with
  | nil => rfl
  | cons p a ih => obtain ⟨x, c⟩ := p; simp only [List.cons_append, updF]; exact ih _

theorem memN_iff' : ∀ (x : Nat) (l : List Nat), memN x l = true ↔ x ∈ l
  | x, [] => by simp [memN]
  | x, y :: l => by
    have ih := memN_iff' x l
    simp only [memN, Bool.or_eq_true, List.mem_cons, ih]
    constructor
    · rintro (h | h)
      · exact .inl (Nat.eq_of_beq_eq_true h)
      · exact .inr h
    · rintro (h | h)
      · exact .inl (nb_t h)
      · exact .inr h
theorem updF_drops : ∀ (ys : List Nat) (h : HpF) (x : Nat), updF (drops ys) h x = if x ∈ ys then none else h x
  | [], h, x => by simp [drops, updF]
  | y :: ys, h, x => by
    simp only [drops, updF]
    rw [updF_drops ys _ x]
    by_cases h1 : x ∈ ys
    · simp [h1]
    · by_cases h2 : x = y
      · subst h2; simp
      · simp [h1, h2]
theorem updF_drops_some {ys : List Nat} {h : HpF} {x : Nat} {c : Chunk} : updF (drops ys) h x = some c ↔ x ∉ ys ∧ h x = some c := by
  rw [updF_drops]
  by_cases h1 : x ∈ ys <;> simp [h1]

/-- The blocks of these names. -/
def blocksOf (θ : Th) (h : HpF) (ys : List Nat) (b : Nat) : Prop := ∃ y ∈ ys, ∃ c N, h y = some c ∧ θ y = some (b, N)
def frozenBy (Im : Nat → Prop) (θ : Th) (h : HpF) (ys : List Nat) (b : Nat) : Prop := Im b ∨ blocksOf θ h ys b

theorem frozenBy_up {Im : Nat → Prop} {θ : Th} {h : HpF} {ys : List Nat} (w : World) : ∀ b, Im b → frozenBy Im θ h ys b ∧ w.heap[b]? = w.heap[b]? := fun _ hb => ⟨.inl hb, rfl⟩

/-- A new name for a block that is new, or that the one name had which is used up: 'ds': the names that go, 'ys' of them known by content from here on. -/
theorem name_step {w w' : World} {Im : Nat → Prop} {θ : Th} {h : HpF} (hr : HRel P ω w Im θ h) {nx : Nat} (hθ : θ nx = none) (hnx : h nx = none) {ds ys : List Nat} (hsub : ∀ y ∈ ys, y ∈ ds) {b N : Nat}
    (hb : (w.heap.size ≤ b ∧ b < w'.heap.size) ∨ ∃ y c N', y ∈ ds ∧ y ∉ ys ∧ h y = some c ∧ θ y = some (b, N')) (hsz : w.heap.size ≤ w'.heap.size) (hold : ∀ d, d ≠ b → d < w.heap.size → w'.heap[d]? = w.heap[d]?)
    (hos : w'.os = w.os) (hou : w'.output = w.output) (hta : w'.tape = w.tape) (c : Chunk)
    (hc : ∀ θ' : Th, θ' nx = some (b, N) → (∀ x p, θ x = some p → θ' x = some p) → (∀ d, frozenBy Im θ h ys d → frozenBy Im θ h ys d ∧ w'.heap[d]? = w.heap[d]?) → CRel P ω w' (frozenBy Im θ h ys) θ' nx c) :
    ∃ θ' : Th, Ext (fun x => nx ≤ x ∧ x < nx + 1) h w Im θ (updF (drops ds ++ [(nx, some c)]) h) w' (frozenBy Im θ h ys) θ' ∧ HRel P ω w' (frozenBy Im θ h ys) θ' (updF (drops ds ++ [(nx, some c)]) h) ∧ θ' nx = some (b, N) := by
  let θ' : Th := fun x => if x = nx then some (b, N) else θ x
  have hup : ∀ x p, θ x = some p → θ' x = some p := by
    intro x p hp
    by_cases hx : x = nx
    · subst hx; rw [hθ] at hp; cases hp
    · simp [θ', hx, hp]
  have hg : ∀ x d, updF (drops ds ++ [(nx, some c)]) h x = some d → (x = nx ∧ d = c) ∨ (x ≠ nx ∧ x ∉ ds ∧ h x = some d) := by
    intro x d hx
    rw [updF_app] at hx
    simp only [updF] at hx
    by_cases hxn : x = nx
    · simp [hxn] at hx; exact .inl ⟨hxn, hx.symm⟩
    · simp only [if_neg hxn] at hx
      exact .inr ⟨hxn, updF_drops_some.1 hx⟩
  have hImlt : ∀ d, frozenBy Im θ h ys d → d < w.heap.size := by
    rintro d (hd | ⟨y, _, c', N', hy, hyθ⟩)
    · exact hr.im d hd
    · exact (hr.own y c' d N' hy hyθ).2
  have hbIm : ¬ frozenBy Im θ h ys b := by
    intro hh
    rcases hb with ⟨h1, _⟩ | ⟨y, c', N', h1, h2, h3, h4⟩
    · have := hImlt b hh; omega
    · rcases hh with hh | ⟨z, hz, c2, N2, hz1, hz2⟩
      · exact (hr.own y c' b N' h3 h4).1 hh
      · have := hr.inj y z c' c2 b N' N2 h3 hz1 h4 hz2
        subst this
        exact h2 hz
  have hother : ∀ x d M, x ∉ ds → ∀ c', h x = some c' → θ x = some (d, M) → d ≠ b := by
    rintro x d M hx c' hxc hxθ rfl
    rcases hb with ⟨h1, _⟩ | ⟨y, c2, N', h1, h2, h3, h4⟩
    · have := (hr.own x c' d M hxc hxθ).2; omega
    · have := hr.inj x y c' c2 d M N' hxc h3 hxθ h4
      subst this
      exact hx h1
  have hIm : ∀ d, Im d → frozenBy Im θ h ys d ∧ w'.heap[d]? = w.heap[d]? := fun d hd =>
    ⟨.inl hd, hold d (fun e => hbIm (by rw [← e]; exact .inl hd)) (hr.im d hd)⟩
  have hIm' : ∀ d, frozenBy Im θ h ys d → w'.heap[d]? = w.heap[d]? := fun d hd => hold d (fun e => hbIm (by rw [← e]; exact hd)) (hImlt d hd)
  refine ⟨θ', ?_, ?_, by simp [θ']⟩
  · refine ⟨?_, hup, fun _ h => .inl h, hsz, ?_, ?_, ?_, hos, hou, hta⟩
    · intro x hx
      have : x ≠ nx := by intro e; subst e; exact hx ⟨Nat.le_refl _, Nat.lt_succ_self _⟩
      simp [θ', this]
    · intro d hd hno
      refine hold d (fun e => ?_) hd
      subst e
      rcases hb with ⟨h1, _⟩ | ⟨y, c', N', h1, h2, h3, h4⟩
      · omega
      · exact hno y c' N' h3 h4
    · rintro d (hd | ⟨y, _, c', N', hy, hyθ⟩)
      · exact .inl hd
      · exact .inr (.inl ⟨y, c', N', hy, hyθ⟩)
    · intro x d e M hx he
      rcases hg x d hx with ⟨rfl, rfl⟩ | ⟨h1, h2, h3⟩
      · simp [θ'] at he
        obtain ⟨rfl, rfl⟩ := he
        rcases hb with ⟨h1, _⟩ | ⟨y, c', N', h1, h2, h3, h4⟩
        · exact .inr h1
        · exact .inl ⟨y, c', N', h3, h4⟩
      · simp [θ', h1] at he
        exact .inl ⟨x, d, M, h3, he⟩
  · refine ⟨?_, ?_, ?_, fun d hd => Nat.lt_of_lt_of_le (hImlt d hd) hsz⟩
    · intro x d hx
      rcases hg x d hx with ⟨rfl, rfl⟩ | ⟨h1, h2, h3⟩
      · exact hc θ' (by simp [θ']) hup (fun d hd => ⟨hd, hIm' d hd⟩)
      · exact (hr.at_ x d h3).mono hIm hup (by simp [θ', h1]) (fun e M he => hold e (hother x e M h2 d h3 he) (hr.own x d e M h3 he).2)
    · intro x y d d' e M M' hx hy he he'
      rcases hg x d hx with ⟨rfl, rfl⟩ | ⟨h1, h2, h3⟩
      · rcases hg y d' hy with ⟨rfl, rfl⟩ | ⟨g1, g2, g3⟩
        · rfl
        · simp [θ'] at he
          simp [θ', g1] at he'
          exact absurd he.1.symm (hother y e M' g2 d' g3 he')
      · rcases hg y d' hy with ⟨rfl, rfl⟩ | ⟨g1, g2, g3⟩
        · simp [θ', h1] at he
          simp [θ'] at he'
          exact absurd he'.1.symm (hother x e M h2 d h3 he)
        · simp [θ', h1] at he
          simp [θ', g1] at he'
          exact hr.inj x y d d' e M M' h3 g3 he he'
    · intro x d e M hx he
      rcases hg x d hx with ⟨rfl, rfl⟩ | ⟨h1, h2, h3⟩
      · simp [θ'] at he
        obtain ⟨rfl, rfl⟩ := he
        refine ⟨hbIm, ?_⟩
        rcases hb with ⟨_, h1⟩ | ⟨y, c', N', h1, h2, h3, h4⟩
        · exact h1
        · exact Nat.lt_of_lt_of_le (hr.own y c' b N' h3 h4).2 hsz
      · simp [θ', h1] at he
        have ho := hr.own x d e M h3 he
        refine ⟨fun hh => ?_, Nat.lt_of_lt_of_le ho.2 hsz⟩
        rcases hh with hh | ⟨y, hy, c2, N2, hy1, hy2⟩
        · exact ho.1 hh
        · have := hr.inj x y d c2 e M N2 h3 hy1 he hy2
          subst this
          exact h2 (hsub _ hy)

/-- A new name without a block. -/
theorem none_step {w : World} {Im : Nat → Prop} {θ : Th} {h : HpF} (hr : HRel P ω w Im θ h) {nx : Nat} (hθ : θ nx = none) {ds ys : List Nat} (hsub : ∀ y ∈ ys, y ∈ ds) (e : TypeId) :
    Ext (fun x => nx ≤ x ∧ x < nx + 1) h w Im θ (updF (drops ds ++ [(nx, some (.seq e []))]) h) w (frozenBy Im θ h ys) θ ∧ HRel P ω w (frozenBy Im θ h ys) θ (updF (drops ds ++ [(nx, some (.seq e []))]) h) := by
  have hg : ∀ x d, updF (drops ds ++ [(nx, some (.seq e []))]) h x = some d → (x = nx ∧ d = .seq e []) ∨ (x ≠ nx ∧ x ∉ ds ∧ h x = some d) := by
    intro x d hx
    rw [updF_app] at hx
    simp only [updF] at hx
    by_cases hxn : x = nx
    · simp [hxn] at hx; exact .inl ⟨hxn, hx.symm⟩
    · simp only [if_neg hxn] at hx
      exact .inr ⟨hxn, updF_drops_some.1 hx⟩
  have hImlt : ∀ d, frozenBy Im θ h ys d → d < w.heap.size := by
    rintro d (hd | ⟨y, _, c', N', hy, hyθ⟩)
    · exact hr.im d hd
    · exact (hr.own y c' d N' hy hyθ).2
  refine ⟨⟨fun _ _ => rfl, fun _ _ h => h, fun _ h => .inl h, Nat.le_refl _, fun _ _ _ => rfl, ?_, ?_, rfl, rfl, rfl⟩, ⟨?_, ?_, ?_, hImlt⟩⟩
  · rintro d (hd | ⟨y, _, c', N', hy, hyθ⟩)
    · exact .inl hd
    · exact .inr (.inl ⟨y, c', N', hy, hyθ⟩)
  · intro x d e' M hx he
    rcases hg x d hx with ⟨rfl, rfl⟩ | ⟨h1, h2, h3⟩
    · rw [hθ] at he; cases he
    · exact .inl ⟨x, d, M, h3, he⟩
  · intro x d hx
    rcases hg x d hx with ⟨rfl, rfl⟩ | ⟨h1, h2, h3⟩
    · exact .inl ⟨rfl, hθ⟩
    · exact (hr.at_ x d h3).mono (frozenBy_up w) (fun _ _ h => h) rfl (fun _ _ _ => rfl)
  · intro x y d d' e' M M' hx hy he he'
    rcases hg x d hx with ⟨rfl, rfl⟩ | ⟨h1, h2, h3⟩
    · rw [hθ] at he; cases he
    · rcases hg y d' hy with ⟨rfl, rfl⟩ | ⟨g1, g2, g3⟩
      · rw [hθ] at he'; cases he'
      · exact hr.inj x y d d' e' M M' h3 g3 he he'
  · intro x d e' M hx he
    rcases hg x d hx with ⟨rfl, rfl⟩ | ⟨h1, h2, h3⟩
    · rw [hθ] at he; cases he
    · have ho := hr.own x d e' M h3 he
      refine ⟨fun hh => ?_, ho.2⟩
      rcases hh with hh | ⟨y, hy, c2, N2, hy1, hy2⟩
      · exact ho.1 hh
      · have := hr.inj x y d c2 e' M N2 h3 hy1 he hy2
        subst this
        exact h2 (hsub _ hy)

/-- Names that go; some known by content from here on. -/
theorem drop_step {w : World} {Im : Nat → Prop} {θ : Th} {h : HpF} (hr : HRel P ω w Im θ h) {new : Nat → Prop} (ys : List Nat) :
    Ext new h w Im θ (updF (drops ys) h) w (frozenBy Im θ h ys) θ ∧ HRel P ω w (frozenBy Im θ h ys) θ (updF (drops ys) h) := by
  have hImlt : ∀ d, frozenBy Im θ h ys d → d < w.heap.size := by
    rintro d (hd | ⟨y, _, c', N', hy, hyθ⟩)
    · exact hr.im d hd
    · exact (hr.own y c' d N' hy hyθ).2
  refine ⟨⟨fun _ _ => rfl, fun _ _ h => h, fun _ h => .inl h, Nat.le_refl _, fun _ _ _ => rfl, ?_, ?_, rfl, rfl, rfl⟩, ⟨?_, ?_, ?_, hImlt⟩⟩
  · rintro d (hd | ⟨y, _, c', N', hy, hyθ⟩)
    · exact .inl hd
    · exact .inr (.inl ⟨y, c', N', hy, hyθ⟩)
  · intro x d e' M hx he
    exact .inl ⟨x, d, M, (updF_drops_some.1 hx).2, he⟩
  · intro x d hx
    exact (hr.at_ x d (updF_drops_some.1 hx).2).mono (frozenBy_up w) (fun _ _ h => h) rfl (fun _ _ _ => rfl)
  · intro x y d d' e' M M' hx hy he he'
    exact hr.inj x y d d' e' M M' (updF_drops_some.1 hx).2 (updF_drops_some.1 hy).2 he he'
  · intro x d e' M hx he
    obtain ⟨h2, h3⟩ := updF_drops_some.1 hx
    have ho := hr.own x d e' M h3 he
    refine ⟨fun hh => ?_, ho.2⟩
    rcases hh with hh | ⟨y, hy, c2, N2, hy1, hy2⟩
    · exact ho.1 hh
    · have := hr.inj x y d c2 e' M N2 h3 hy1 he hy2
      subst this
      exact h2 hy
theorem put_block {w : World} {Im : Nat → Prop} {θ : Th} {h : HpF} (hr : HRel P ω w Im θ h) {x b N : Nat} {c : Chunk} (hx : h x = some c) (hθ : θ x = some (b, N)) (o : Obj) (c' : Option Chunk)
    (hc : (∀ d, Im d → Im d ∧ (w.putObj b o).heap[d]? = w.heap[d]?) → ∀ d, c' = some d → CRel P ω (w.putObj b o) Im θ x d) :
    Ext (fun _ => False) h w Im θ (updF [(x, c')] h) (w.putObj b o) Im θ ∧ HRel P ω (w.putObj b o) Im θ (updF [(x, c')] h) := by
  have hown := hr.own x _ b _ hx hθ
  have hI : ∀ d, Im d → Im d ∧ (w.putObj b o).heap[d]? = w.heap[d]? := fun d hd => ⟨hd, World.putObj_heap_other (fun e => hown.1 (e ▸ hd))⟩
  refine ⟨⟨fun _ _ => rfl, fun _ _ h => h, fun _ h => h, by simp, ?_, fun d hd => .inl hd, ?_, rfl, rfl, rfl⟩, ?_, ?_, ?_, fun d hd => by simpa using hr.im d hd⟩
  · intro d hd hno
    exact World.putObj_heap_other (fun e => hno x _ N hx (by rw [hθ, e]))
  · intro y d e M hy he
    by_cases hyx : y = x
    · subst hyx; exact .inl ⟨y, _, M, hx, he⟩
    · simp [updF, hyx] at hy; exact .inl ⟨y, d, M, hy, he⟩
  · intro y d hy
    by_cases hyx : y = x
    · subst hyx
      simp [updF] at hy
      exact hc hI d hy
    · simp [updF, hyx] at hy
      refine (hr.at_ y d hy).mono hI (fun _ _ h => h) rfl (fun e M he => World.putObj_heap_other (fun ee => ?_))
      subst ee
      exact hyx (hr.inj y x d c e M N hy hx he hθ)
  · intro y z d d' e M M' hy hz he he'
    have old : ∀ y d, updF [(x, c')] h y = some d → ∃ d0, h y = some d0 := by
      intro y d hy
      by_cases hyx : y = x
      · subst hyx; exact ⟨c, hx⟩
      · simp [updF, hyx] at hy; exact ⟨d, hy⟩
    obtain ⟨d0, h0⟩ := old y d hy
    obtain ⟨d1, h1⟩ := old z d' hz
    exact hr.inj y z d0 d1 e M M' h0 h1 he he'
  · intro y d e M hy he
    by_cases hyx : y = x
    · subst hyx
      have := hr.own y c e M hx he
      exact ⟨this.1, by simpa using this.2⟩
    · simp [updF, hyx] at hy
      have := hr.own y d e M hy he
      exact ⟨this.1, by simpa using this.2⟩

end Go.Am
