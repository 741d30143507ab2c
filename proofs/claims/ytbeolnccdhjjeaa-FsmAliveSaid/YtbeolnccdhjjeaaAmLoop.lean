/- The abstract machine: the records of ranges over functions. -/
import Derived.Test.YtbeolnccdhjjeaaAmSpec
import Derived.RangeFuncRecord
import Derived.RangeFuncLeaves
namespace Go.Am
variable {P : Program} {ω : Nat → Value}

theorem alloc_free {w : World} {Im : Nat → Prop} {θ : Th} {h : HpF} (hr : HRel P ω w Im θ h) (o : Obj) : Ext (fun _ => False) h w Im θ h (w.alloc o) Im θ ∧ HRel P ω (w.alloc o) Im θ h := by
  have hold : ∀ b, b < w.heap.size → (w.alloc o).heap[b]? = w.heap[b]? := fun b hb => alloc_old w _ b hb
  have hI : ∀ b, Im b → Im b ∧ (w.alloc o).heap[b]? = w.heap[b]? := fun b hb => ⟨hb, hold b (hr.im b hb)⟩
  refine ⟨⟨fun _ _ => rfl, fun _ _ h => h, fun _ h => h, by simp, fun b hb _ => hold b hb, fun b hb => .inl hb, fun x c b N hx hb => .inl ⟨x, c, N, hx, hb⟩, rfl, rfl, rfl⟩, ?_⟩
  refine ⟨fun x c hx => (hr.at_ x c hx).mono hI (fun _ _ h => h) rfl (fun b N hb => hold b (hr.own x c b N hx hb).2), hr.inj, fun x c b N hx hb => ⟨(hr.own x c b N hx hb).1, ?_⟩, fun b hb => ?_⟩
  · have := (hr.own x c b N hx hb).2; simp; omega
  · have := hr.im b hb; simp; omega

theorem alloc_loop {w : World} {Im : Nat → Prop} {θ : Th} {h : HpF} (hr : HRel P ω w Im θ h) {nx : Nat} (hθ : θ nx = none) {st : LS} {vs : List SV} {lp : Loop} (hl : LRel P ω w Im θ vs lp.tmps.toList) (hs : stRel st lp.state lp.pending) :
    ∃ θ', Ext (fun x => nx ≤ x ∧ x < nx + 1) h w Im θ (updF [(nx, some (.loopr st vs lp.params lp.assign lp.body))] h) (w.alloc (.loop lp)) Im θ' ∧
      HRel P ω (w.alloc (.loop lp)) Im θ' (updF [(nx, some (.loopr st vs lp.params lp.assign lp.body))] h) ∧ θ' nx = some (w.heap.size, 0) := by
  let θ' : Th := fun x => if x = nx then some (w.heap.size, 0) else θ x
  have hup : ∀ x p, θ x = some p → θ' x = some p := by
    intro x p hp
    by_cases hx : x = nx
    · subst hx; rw [hθ] at hp; cases hp
    · simp [θ', hx, hp]
  have hold : ∀ b, b < w.heap.size → (w.alloc (.loop lp)).heap[b]? = w.heap[b]? := fun b hb => alloc_old w _ b hb
  have hI : ∀ b, Im b → Im b ∧ (w.alloc (.loop lp)).heap[b]? = w.heap[b]? := fun b hb => ⟨hb, hold b (hr.im b hb)⟩
  refine ⟨θ', ?_, ?_, by simp [θ']⟩
  · refine ⟨?_, hup, fun _ h => h, by simp, fun b hb _ => hold b hb, fun b hb => .inl hb, ?_, rfl, rfl, rfl⟩
    · intro x hx
      have : x ≠ nx := by intro e; subst e; exact hx ⟨Nat.le_refl _, Nat.lt_succ_self _⟩
      simp [θ', this]
    · intro x c b N hx hb
      by_cases hxn : x = nx
      · subst hxn
        simp [θ'] at hb
        exact .inr (by omega)
      · simp [θ', hxn] at hb
        simp [updF, hxn] at hx
        exact .inl ⟨x, c, N, hx, hb⟩
  · refine ⟨?_, ?_, ?_, fun b hb => by have := hr.im b hb; simp; omega⟩
    · intro x c hx
      by_cases hxn : x = nx
      · subst hxn
        simp [updF] at hx
        subst hx
        exact ⟨w.heap.size, 0, lp, by simp [θ'], alloc_new w _, rfl, rfl, rfl, hs, hl.mono hI hup⟩
      · simp [updF, hxn] at hx
        exact (hr.at_ x c hx).mono hI hup (by simp [θ', hxn]) (fun b N hb => hold b (hr.own x c b N hx hb).2)
    · intro x y c c' b N N' hx hy hb hb'
      by_cases hxn : x = nx
      · by_cases hyn : y = nx
        · rw [hxn, hyn]
        · simp [updF, hyn] at hy
          simp [θ', hyn] at hb'
          simp [θ', hxn] at hb
          have := (hr.own y c' b N' hy hb').2
          omega
      · by_cases hyn : y = nx
        · simp [updF, hxn] at hx
          simp [θ', hxn] at hb
          simp [θ', hyn] at hb'
          have := (hr.own x c b N hx hb).2
          omega
        · simp [updF, hxn] at hx
          simp [updF, hyn] at hy
          simp [θ', hxn] at hb
          simp [θ', hyn] at hb'
          exact hr.inj x y c c' b N N' hx hy hb hb'
    · intro x c b N hx hb
      by_cases hxn : x = nx
      · simp [θ', hxn] at hb
        refine ⟨fun hi => ?_, by simp; omega⟩
        have := hr.im b hi
        omega
      · simp [updF, hxn] at hx
        simp [θ', hxn] at hb
        have := hr.own x c b N hx hb
        exact ⟨this.1, by simp; omega⟩

/-- The record's state is turned. -/
theorem put_loop {w : World} {Im : Nat → Prop} {θ : Th} {h : HpF} (hr : HRel P ω w Im θ h) {x b N : Nat} {st st' : LS} {vs : List SV} {ps : Array Nat} {asg bdy : Code} (hx : h x = some (.loopr st vs ps asg bdy)) (hθ : θ x = some (b, N)) :
    ∃ lp : Loop, w.heap[b]? = some (.loop lp) ∧ lp.params = ps ∧ lp.assign = asg ∧ lp.body = bdy ∧ stRel st lp.state lp.pending ∧ LRel P ω w Im θ vs lp.tmps.toList ∧
      ∀ (s : LoopState) (pe : Option Code), stRel st' s pe → Ext (fun _ => False) h w Im θ (updF [(x, some (.loopr st' vs ps asg bdy))] h) (w.putObj b (.loop { lp with state := s, pending := pe })) Im θ ∧
        HRel P ω (w.putObj b (.loop { lp with state := s, pending := pe })) Im θ (updF [(x, some (.loopr st' vs ps asg bdy))] h) := by
  obtain ⟨b', N', lp, h1, h2, h3, h4, h5, h6, h7⟩ := hr.at_ x _ hx
  rw [hθ] at h1
  simp only [Option.some.injEq, Prod.mk.injEq] at h1
  obtain ⟨rfl, rfl⟩ := h1
  refine ⟨lp, h2, h3, h4, h5, h6, h7, fun s pe hs => put_block hr hx hθ _ _ (fun hI d hd => ?_)⟩
  cases hd
  exact ⟨b, N, _, hθ, World.putObj_heap_same (heap_lt h2), h3, h4, h5, hs, h7.mono hI (fun _ _ h => h)⟩

/- The function's end. -/
theorem leaves_marks {fn : Func} {tmps : Array Value} {ro : Option Nat} {R : Ending → World → Prop} : ∀ (rs : List Nat) (w : World), rs.Nodup → (∀ r ∈ rs, w.heap[r]? = some (.deferred (some []))) →
    (∀ w', w'.heap.size = w.heap.size → (∀ b, b ∉ rs → w'.heap[b]? = w.heap[b]?) → w'.os = w.os → w'.output = w.output → w'.tape = w.tape → ∃ v, (results fn tmps).run P w' = .ok v w' ∧ R (.returned v) w') →
    LeavesInM (FR ro) 0 P fn tmps R (rs.map fun r => { target := .collected r, args := #[] }) .returning w
  | [], w, _, _, hR => hR w rfl (fun _ _ => rfl) rfl rfl rfl
  | r :: rs, w, hnd, hat, hR => by
    rw [List.nodup_cons] at hnd
    refine ⟨by simp, .inl ⟨r, _, rfl, run_takeDeferred (hat r (by simp)), ?_⟩⟩
    refine leaves_marks rs _ hnd.2 (fun q hq => ?_) (fun w' h1 h2 h3 h4 h5 => hR w' (by simpa using h1) (fun b hb => ?_) h3 h4 h5)
    · rw [World.putObj_heap_other (show q ≠ r from fun e => hnd.1 (by rw [← e]; exact hq))]; exact hat q (by simp [hq])
    · simp only [List.mem_cons, not_or] at hb
      rw [h2 b hb.2, World.putObj_heap_other hb.1]

end Go.Am
