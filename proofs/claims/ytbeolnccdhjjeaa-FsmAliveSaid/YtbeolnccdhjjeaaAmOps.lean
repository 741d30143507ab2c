/- The abstract machine: its operations against the model's, one by one. -/
import Derived.Test.YtbeolnccdhjjeaaAmRel
namespace Go.Am

variable {P : Program} {ω : Nat → Value}

/-- The wide fence, in a round or in none. -/
def FR (ρ : Option Nat) : Fence := { Fence.wide with round := ρ }
theorem FR_depth (ρ : Option Nat) : (FR ρ).depth = none := rfl
theorem FR_fn (ρ : Option Nat) (f : FuncId) : (FR ρ).fn f := trivial
theorem callsIn_FR {ρ : Option Nat} {n : Nat} {f : FuncId} {args : Array Value} {w : World} {R : Ending → World → Prop} (h : Calls P f args w R) : CallsIn (FR ρ) n P f args w R :=
  (callsIn_wide (n := n)).2 h
theorem FR_depth1 (ρ : Option Nat) {n : Nat} : (FR ρ).depth.isSome = true → 1 ≤ n := fun h => by simp [FR_depth] at h

theorem semAt_value {ρ : Option Nat} {ev : Operand → Value} {o : Oper} {w w' : World} {v : Value} (h : (execOp ev o).run P w = .ok (.value v) w') : (o.semAt ρ ev).run P w = .ok (.value v) w' := by
  by_cases hd : ∃ c, o.op = .defer c
  · obtain ⟨c, hc⟩ := hd
    obtain ⟨dst, op, type, pos, after, guard⟩ := o
    simp only at hc
    subst hc
    simp only [execOp, Sem.run_bind] at h
    cases hr : (resolve ev c type).run P w <;> simp [hr, Result.andThen] at h
  · rw [Oper.semAt_eq ρ ev o (fun c hc => hd ⟨c, hc⟩)]; exact h
theorem semAt_skip {ρ : Option Nat} {ev : Operand → Value} {o : Oper} {w w' : World} (h : (execOp ev o).run P w = .ok .skip w') : (o.semAt ρ ev).run P w = .ok .skip w' := by
  by_cases hd : ∃ c, o.op = .defer c
  · obtain ⟨c, hc⟩ := hd
    obtain ⟨dst, op, type, pos, after, guard⟩ := o
    simp only at hc
    subst hc
    simp only [execOp, Sem.run_bind] at h
    cases hr : (resolve ev c type).run P w <;> simp [hr, Result.andThen] at h
  · rw [Oper.semAt_eq ρ ev o (fun c hc => hd ⟨c, hc⟩)]; exact h

/-- The step is right, whatever comes behind it. -/
def Good (P : Program) (ω : Nat → Value) (o : Oper) (a : Act) (w : World) (Im : Nat → Prop) (θ : Th) (h : HpF) (r : SV) (ups : List (Nat × Option Chunk)) (nx nx' : Nat) : Prop :=
  ∀ (ρ : Option Nat) (K : Act → World → Prop) (Q : Exit → Act → World → Prop),
    (∀ v w' Im' θ', Ext (fun x => nx ≤ x ∧ x < nx') h w Im θ (updF ups h) w' Im' θ' → VRel P ω w' Im' θ' r v → HRel P ω w' Im' θ' (updF ups h) → K (a.put o.dst v) w') → o.wpIn (FR ρ) 0 P a w K Q

theorem good_run {o : Oper} {a : Act} {w w' : World} {Im Im' : Nat → Prop} {θ θ' : Th} {h : HpF} {r : SV} {ups : List (Nat × Option Chunk)} {nx nx' : Nat} {v : Value}
    (hrun : (execOp a.eval o).run P w = .ok (.value v) w') (he : Ext (fun x => nx ≤ x ∧ x < nx') h w Im θ (updF ups h) w' Im' θ')
    (hv : VRel P ω w' Im' θ' r v) (hr : HRel P ω w' Im' θ' (updF ups h)) : Good P ω o a w Im θ h r ups nx nx' := by
  intro ρ K Q hK
  refine ⟨fun f _ => FR_fn ρ f, ?_⟩
  rw [show (FR ρ).round = ρ from rfl, semAt_value hrun]
  exact hK v w' Im' θ' he hv hr

theorem good_value {o : Oper} {a : Act} {w : World} {Im : Nat → Prop} {θ : Th} {h : HpF} {r : SV} {nx : Nat} {v : Value}
    (hr : HRel P ω w Im θ h) (hrun : (execOp a.eval o).run P w = .ok (.value v) w) (hv : VRel P ω w Im θ r v) : Good P ω o a w Im θ h r [] nx nx :=
  good_run hrun (Ext.refl _) hv hr

theorem good_skip {o : Oper} {a : Act} {w w' : World} {Im Im' : Nat → Prop} {θ θ' : Th} {h : HpF} {ups : List (Nat × Option Chunk)} {nx nx' : Nat}
    (hrun : (execOp a.eval o).run P w = .ok .skip w') (he : Ext (fun x => nx ≤ x ∧ x < nx') h w Im θ (updF ups h) w' Im' θ')
    (hr : HRel P ω w' Im' θ' (updF ups h)) : Good P ω o a w Im θ h .junk ups nx nx' := by
  intro ρ K Q hK
  refine ⟨fun f _ => FR_fn ρ f, ?_⟩
  rw [show (FR ρ).round = ρ from rfl, semAt_skip hrun]
  exact hK undef w' Im' θ' he .junk hr

/- Single cells. -/
theorem one_of_oneS {w : World} {Im : Nat → Prop} {θ : Th} {v : SV} {u : Value} (hv : VRel P ω w Im θ v u) (h : oneS v = true) : u.oneCell' = true := by
  cases hv <;> first | rfl | simp [oneS] at h

theorem LRel.one {w : World} {Im : Nat → Prop} {θ : Th} {cs : List SV} {us : List Value} (hl : LRel P ω w Im θ cs us) (h : allOne cs = true) : ∀ u ∈ us, u.oneCell' = true := by
  obtain ⟨hlen, hat⟩ := hl
  induction cs generalizing us with
  | nil => cases us with
    | nil => simp
    | cons => simp at hlen
  | cons c cs ih => cases us with
    | nil => simp at hlen
    | cons u us =>
      simp only [allOne, Bool.and_eq_true] at h
      intro x hx
      rcases List.mem_cons.1 hx with rfl | hx
      · exact one_of_oneS (hat 0 c _ rfl rfl) h.1
      · exact ih h.2 (by simpa using hlen) (fun i v u hv hu => hat (i + 1) v u (by simpa using hv) (by simpa using hu)) x hx

theorem cells_one {u : Value} (h : u.oneCell' = true) : u.cells = #[u] := by
  cases u <;> first | rfl | simp [Value.oneCell'] at h

theorem oneS_one {v : SV} {cs : List SV} (h : cellsS v = some cs) : allOne cs = true := by
  cases v <;> simp [cellsS] at h <;> try (subst h; rfl)
  rename_i l
  cases hh : allOne l <;> simp [hh] at h
  subst h; exact hh

theorem cells_rel {w : World} {Im : Nat → Prop} {θ : Th} {v : SV} {u : Value} {cs : List SV} (hv : VRel P ω w Im θ v u) (h : cellsS v = some cs) : LRel P ω w Im θ cs u.cells.toList := by
  cases hv with
  | junk => simp [cellsS] at h
  | opq => simp [cellsS] at h
  | tup => simp [cellsS] at h
  | agg h1 h2 =>
    rename_i l us
    have : cs = l := by
      simp only [cellsS] at h
      cases hh : allOne l <;> simp [hh] at h
      exact h.symm
    subst this
    exact ⟨by simpa [Value.cells] using h1, fun i v u hv hu => h2 i v u hv (by simpa [Value.cells] using hu)⟩
  | _ =>
    simp only [cellsS, Option.some.injEq] at h
    subst h
    refine ⟨by simp [Value.cells], fun i v u hv hu => ?_⟩
    cases i with
    | zero =>
      simp [Value.cells] at hv hu
      subst hv; subst hu
      constructor <;> assumption
    | succ i => simp at hv

theorem LRel.mono {w w' : World} {Im Im' : Nat → Prop} {θ θ' : Th} {cs : List SV} {us : List Value} (hl : LRel P ω w Im θ cs us) (hI : ∀ b, Im b → Im' b ∧ w'.heap[b]? = w.heap[b]?)
    (hθ : ∀ x p, θ x = some p → θ' x = some p) : LRel P ω w' Im' θ' cs us :=
  ⟨hl.len, fun i v u hv hu => (hl.at_ i v u hv hu).mono hI hθ⟩

/-- A chunk whose block is as it was. -/
theorem CRel.mono {w w' : World} {Im Im' : Nat → Prop} {θ θ' : Th} {x : Nat} {c : Chunk} (hc : CRel P ω w Im θ x c) (hI : ∀ b, Im b → Im' b ∧ w'.heap[b]? = w.heap[b]?)
    (hθ : ∀ x p, θ x = some p → θ' x = some p) (hx : θ' x = θ x) (hb : ∀ b N, θ x = some (b, N) → w'.heap[b]? = w.heap[b]?) : CRel P ω w' Im' θ' x c := by
  cases c with
  | cells T vs =>
    obtain ⟨b, cs, fr, h1, h2, h3, h4⟩ := hc
    exact ⟨b, cs, fr, by rw [hx]; exact h1, by rw [hb b _ h1]; exact h2, h3, h4.mono hI hθ⟩
  | seq e es =>
    rcases hc with ⟨h1, h2⟩ | ⟨b, N, cs, T, fr, us, h1, h2, h3, h4, h5, h6, h7⟩
    · exact .inl ⟨h1, by rw [hx]; exact h2⟩
    · refine .inr ⟨b, N, cs, T, fr, us, by rw [hx]; exact h1, by rw [hb b _ h1]; exact h2, h3, h4, h5, h6, fun i v hv => ?_⟩
      exact ⟨(h7 i v hv).1.mono hI (fun _ _ h => h), (h7 i v hv).2⟩
  | loopr st vs ps asg bdy =>
    obtain ⟨b, N, lp, h1, h2, h3, h4, h5, h6, h7⟩ := hc
    exact ⟨b, N, lp, by rw [hx]; exact h1, by rw [hb b _ h1]; exact h2, h3, h4, h5, h6, h7.mono hI hθ⟩
  | mpc ks vs =>
    obtain ⟨b, N, es, cl, h1, h2, h3, h4, h5⟩ := hc
    exact ⟨b, N, es, cl, by rw [hx]; exact h1, by rw [hb b _ h1]; exact h2, h3.mono hI hθ, h4.mono hI hθ, h5⟩

theorem alloc_old (w : World) (o : Obj) (b : Nat) (h : b < w.heap.size) : (w.alloc o).heap[b]? = w.heap[b]? := by
  show (w.heap.push o)[b]? = _
  rw [Array.getElem?_push, if_neg (Nat.ne_of_lt h)]
theorem alloc_new (w : World) (o : Obj) : (w.alloc o).heap[w.heap.size]? = some o := by
  show (w.heap.push o)[w.heap.size]? = _
  rw [Array.getElem?_push, if_pos rfl]

/- A new row of cells. -/
theorem alloc_ok {w : World} {Im : Nat → Prop} {θ : Th} {h : HpF} (hr : HRel P ω w Im θ h) {nx : Nat} (hθ : θ nx = none) {vs : List SV} {us : List Value} {T : TypeId} (hl : LRel P ω w Im θ vs us) :
    ∃ θ', Ext (fun x => nx ≤ x ∧ x < nx + 1) h w Im θ (updF [(nx, some (.cells T vs))] h) (w.alloc (.cells us.toArray T)) Im θ' ∧
      HRel P ω (w.alloc (.cells us.toArray T)) Im θ' (updF [(nx, some (.cells T vs))] h) ∧ θ' nx = some (w.heap.size, vs.length) := by
  let θ' : Th := fun x => if x = nx then some (w.heap.size, vs.length) else θ x
  have hup : ∀ x p, θ x = some p → θ' x = some p := by
    intro x p hp
    by_cases hx : x = nx
    · subst hx; rw [hθ] at hp; cases hp
    · simp [θ', hx, hp]
  have hold : ∀ b, b < w.heap.size → (w.alloc (.cells us.toArray T)).heap[b]? = w.heap[b]? := fun b hb => alloc_old w _ b hb
  have hI : ∀ b, Im b → Im b ∧ (w.alloc (.cells us.toArray T)).heap[b]? = w.heap[b]? := fun b hb => ⟨hb, hold b (hr.im b hb)⟩
  refine ⟨θ', ?_, ?_, by simp [θ']⟩
  · refine ⟨?_, hup, fun _ h => h, by simp, fun b hb _ => hold b hb, fun b hb => .inl hb, ?_, rfl, rfl, rfl⟩
    · intro x hx
      have : x ≠ nx := by intro e; subst e; exact hx ⟨Nat.le_refl _, Nat.lt_succ_self _⟩
      simp [θ', this]
    · intro x c b N hx hb
      by_cases hxn : x = nx
      · subst hxn
        simp [θ'] at hb
        exact .inr (by omega)
      · simp [θ', hxn] at hb
        simp [updF, hxn] at hx
        exact .inl ⟨x, c, N, hx, hb⟩
  · refine ⟨?_, ?_, ?_, fun b hb => by have := hr.im b hb; simp; omega⟩
    · intro x c hx
      by_cases hxn : x = nx
      · subst hxn
        simp [updF] at hx
        subst hx
        refine ⟨w.heap.size, us.toArray, (0, 0), by simp [θ'], alloc_new w _, fun i _ hh => by omega, ?_⟩
        exact hl.mono hI hup
      · simp [updF, hxn] at hx
        exact (hr.at_ x c hx).mono hI hup (by simp [θ', hxn]) (fun b N hb => hold b (hr.own x c b N hx hb).2)
    · intro x y c c' b N N' hx hy hb hb'
      by_cases hxn : x = nx
      · by_cases hyn : y = nx
        · rw [hxn, hyn]
        · simp [updF, hyn] at hy
          simp [θ', hyn] at hb'
          simp [θ', hxn] at hb
          have := (hr.own y c' b N' hy hb').2
          omega
      · by_cases hyn : y = nx
        · simp [updF, hxn] at hx
          simp [θ', hxn] at hb
          simp [θ', hyn] at hb'
          have := (hr.own x c b N hx hb).2
          omega
        · simp [updF, hxn] at hx
          simp [updF, hyn] at hy
          simp [θ', hxn] at hb
          simp [θ', hyn] at hb'
          exact hr.inj x y c c' b N N' hx hy hb hb'
    · intro x c b N hx hb
      by_cases hxn : x = nx
      · simp [θ', hxn] at hb
        refine ⟨fun hi => ?_, by simp; omega⟩
        have := hr.im b hi
        omega
      · simp [updF, hxn] at hx
        simp [θ', hxn] at hb
        have := hr.own x c b N hx hb
        exact ⟨this.1, by simp; omega⟩

/- A row that is written. -/

theorem write_ok {w : World} {Im : Nat → Prop} {θ : Th} {h : HpF} (hr : HRel P ω w Im θ h) {nx x : Nat} {T : TypeId} {vs vs' : List SV} {us' : List Value} (hx : h x = some (.cells T vs))
    {b : Nat} {cs : Array Value} {fr : Nat × Nat} (hθ : θ x = some (b, vs.length)) (hb : w.heap[b]? = some (.cells cs T fr)) (hf : fine cs.size fr) (hcs : cs.size = vs.length)
    (hlen : vs'.length = vs.length) (hl : LRel P ω w Im θ vs' us') :
    Ext (fun x => nx ≤ x ∧ x < nx) h w Im θ (updF [(x, some (.cells T vs'))] h) (w.setRow b us'.toArray) Im θ ∧
      HRel P ω (w.setRow b us'.toArray) Im θ (updF [(x, some (.cells T vs'))] h) := by
  have hown := hr.own x _ b _ hx hθ
  have hI : ∀ d, Im d → Im d ∧ (w.setRow b us'.toArray).heap[d]? = w.heap[d]? := fun d hd => ⟨hd, Go.setRow_other w b d _ (fun e => hown.1 (e ▸ hd))⟩
  have hnew : (w.setRow b us'.toArray).heap[b]? = some (.cells us'.toArray T fr) := setRow_heap w b cs _ T fr hb
  refine ⟨⟨fun _ _ => rfl, fun _ _ h => h, fun _ h => h, by simp [World.setRow], ?_, fun d hd => .inl hd, ?_, rfl, rfl, rfl⟩, ?_, ?_, ?_, fun d hd => by simpa [World.setRow] using hr.im d hd⟩
  · intro d hd hno
    exact Go.setRow_other w b d _ (fun e => hno x _ _ hx (e ▸ hθ))
  · intro y c d N hy hd
    by_cases hyx : y = x
    · subst hyx; exact .inl ⟨y, _, N, hx, hd⟩
    · simp [updF, hyx] at hy; exact .inl ⟨y, c, N, hy, hd⟩
  · intro y c hy
    by_cases hyx : y = x
    · subst hyx
      simp [updF] at hy
      subst hy
      refine ⟨b, us'.toArray, fr, by rw [hlen]; exact hθ, hnew, ?_, hl.mono hI (fun _ _ h => h)⟩
      have : us'.toArray.size = cs.size := by simp [← hl.len, hlen, hcs]
      rw [this]; exact hf
    · simp [updF, hyx] at hy
      refine (hr.at_ y c hy).mono hI (fun _ _ h => h) rfl (fun d N hd => Go.setRow_other w b d _ (fun e => ?_))
      subst e
      exact hyx (hr.inj y x c _ d N _ hy hx hd hθ)
  · intro y z c c' d N N' hy hz hd hd'
    have hy' : ∃ c, h y = some c := by
      by_cases hyx : y = x
      · exact ⟨_, hyx ▸ hx⟩
      · simp [updF, hyx] at hy; exact ⟨_, hy⟩
    have hz' : ∃ c, h z = some c := by
      by_cases hzx : z = x
      · exact ⟨_, hzx ▸ hx⟩
      · simp [updF, hzx] at hz; exact ⟨_, hz⟩
    obtain ⟨c1, h1⟩ := hy'
    obtain ⟨c2, h2⟩ := hz'
    exact hr.inj y z c1 c2 d N N' h1 h2 hd hd'
  · intro y c d N hy hd
    have hy' : ∃ c, h y = some c := by
      by_cases hyx : y = x
      · exact ⟨_, hyx ▸ hx⟩
      · simp [updF, hyx] at hy; exact ⟨_, hy⟩
    obtain ⟨c1, h1⟩ := hy'
    have := hr.own y c1 d N h1 hd
    exact ⟨this.1, by simpa [World.setRow] using this.2⟩

/- Constants. -/
theorem ofScalar_rel (w : World) (Im : Nat → Prop) (θ : Th) (v : Value) : VRel P ω w Im θ (ofScalar v) v := by
  unfold ofScalar
  split <;> first
    | exact .bool
    | exact .int
    | exact .str rfl
    | exact .nilp
    | exact .nils
    | exact .nilm
    | exact .nilf
    | exact .nili
    | exact .junk
theorem ofValue_rel (w : World) (Im : Nat → Prop) (θ : Th) (v : Value) : VRel P ω w Im θ (ofValue v) v := by
  unfold ofValue
  split
  · refine .agg (by simp) (fun i v u hv hu => ?_)
    simp only [List.getElem?_map, Option.map_eq_some_iff] at hv
    obtain ⟨c, hc, rfl⟩ := hv
    rw [Array.getElem?_toList] at hc
    rw [hc] at hu
    cases hu
    exact ofScalar_rel w Im θ _
  · exact .iface (ofScalar_rel w Im θ _)
  · exact ofScalar_rel w Im θ _

/- Lists. -/
theorem takeN_spec {α : Type} : ∀ (l : List α) (o n : Nat) (r : List α), takeN l o n = some r → o + n ≤ l.length ∧ r = (l.drop o).take n
  | l, 0, 0, r, h => by simp [takeN] at h; subst h; simp
  | [], o + 1, n, r, h => by simp [takeN] at h
  | [], 0, n + 1, r, h => by simp [takeN] at h
  | x :: l, o + 1, n, r, h => by
    have h' : takeN l o n = some r := by simpa [takeN] using h
    have := takeN_spec l o n r h'
    exact ⟨by simp; omega, by simpa using this.2⟩
  | x :: l, 0, n + 1, r, h => by
    simp only [takeN] at h
    cases hr : takeN l 0 n with
    | none => simp [hr] at h
    | some q =>
      have := takeN_spec l 0 n q hr
      simp [hr] at h
      subst h
      exact ⟨by simp; omega, by simpa using this.2⟩
theorem splice_spec {α : Type} : ∀ (l : List α) (o : Nat) (vs r : List α), splice l o vs = some r → o + vs.length ≤ l.length ∧ r = l.take o ++ vs ++ l.drop (o + vs.length)
  | l, 0, [], r, h => by simp [splice] at h; subst h; simp
  | [], o + 1, vs, r, h => by simp [splice] at h
  | [], 0, _ :: _, r, h => by simp [splice] at h
  | x :: l, o + 1, vs, r, h => by
    simp only [splice] at h
    cases hr : splice l o vs with
    | none => simp [hr] at h
    | some q =>
      have := splice_spec l o vs q hr
      simp [hr] at h
      subst h
      refine ⟨by simp; omega, ?_⟩
      rw [this.2]
      have : o + 1 + vs.length = (o + vs.length) + 1 := by omega
      simp [this]
  | x :: l, 0, v :: vs, r, h => by
    simp only [splice] at h
    cases hr : splice l 0 vs with
    | none => simp [hr] at h
    | some q =>
      have := splice_spec l 0 vs q hr
      simp [hr] at h
      subst h
      refine ⟨by simp; omega, ?_⟩
      rw [this.2]
      simp
theorem nth?_eq {α : Type} : ∀ (l : List α) (n : Nat), nth? l n = l[n]?
  | [], _ => by simp [nth?]
  | _ :: _, 0 => rfl
  | _ :: l, n + 1 => by simpa [nth?] using nth?_eq l n

theorem LRel.part {w : World} {Im : Nat → Prop} {θ : Th} {vs : List SV} {us : List Value} (hl : LRel P ω w Im θ vs us) (o n : Nat) : LRel P ω w Im θ ((vs.drop o).take n) ((us.drop o).take n) := by
  refine ⟨by simp [hl.len], fun i v u hv hu => ?_⟩
  rw [List.getElem?_take] at hv hu
  split at hv
  · rename_i hi
    rw [if_pos hi] at hu
    rw [List.getElem?_drop] at hv hu
    exact hl.at_ _ _ _ hv hu
  · cases hv

theorem LRel.append {w : World} {Im : Nat → Prop} {θ : Th} {as bs : List SV} {us vs : List Value} (h1 : LRel P ω w Im θ as us) (h2 : LRel P ω w Im θ bs vs) : LRel P ω w Im θ (as ++ bs) (us ++ vs) := by
  refine ⟨by simp [h1.len, h2.len], fun i v u hv hu => ?_⟩
  rw [List.getElem?_append] at hv hu
  split at hv
  · rename_i hi
    rw [if_pos (h1.len ▸ hi)] at hu
    exact h1.at_ _ _ _ hv hu
  · rename_i hi
    rw [if_neg (h1.len ▸ hi)] at hu
    rw [← h1.len] at hu
    exact h2.at_ _ _ _ hv hu

theorem LRel.dropL {w : World} {Im : Nat → Prop} {θ : Th} {vs : List SV} {us : List Value} (hl : LRel P ω w Im θ vs us) (o : Nat) : LRel P ω w Im θ (vs.drop o) (us.drop o) := by
  refine ⟨by simp [hl.len], fun i v u hv hu => ?_⟩
  rw [List.getElem?_drop] at hv hu
  exact hl.at_ _ _ _ hv hu

theorem LRel.takeL {w : World} {Im : Nat → Prop} {θ : Th} {vs : List SV} {us : List Value} (hl : LRel P ω w Im θ vs us) (n : Nat) : LRel P ω w Im θ (vs.take n) (us.take n) := by
  simpa using hl.part 0 n

/- Types. -/
theorem info_of_underlying {t : TypeId} {d : TypeDesc} (h : P.underlying t = some d) : ∃ i, P.info? t = some i := by
  unfold Program.underlying at h
  split at h
  · exact ⟨_, by assumption⟩
  · exact ⟨_, by assumption⟩
  · cases h
theorem run_sizeOf' {t : TypeId} {i : TypeInfo} (h : P.info? t = some i) (w : World) : (sizeOf t).run P w = .ok (P.cellsOf t) w := run_sizeOf w h
theorem info_of_cells {t : TypeId} (h : P.cellsOf t ≠ 0) : ∃ i, P.info? t = some i := by
  unfold Program.cellsOf at h
  cases hi : P.info? t with
  | some i => exact ⟨i, rfl⟩
  | none => simp [hi] at h
theorem run_isAgg {t : TypeId} {d : TypeDesc} (h : P.underlying t = some d) (w : World) : (isAgg t).run P w = .ok (isAggT P t) w := by
  unfold isAgg isAggT
  simp only [Sem.run_bind, run_underlying h, Result.andThen_ok, h]
  cases d <;> rfl

/-- The part of a row that is read. -/
theorem run_part_rel {w : World} {Im : Nat → Prop} {θ : Th} {vs : List SV} {us : Array Value} {t : TypeId} {off : Nat} {v : SV} (hl : LRel P ω w Im θ vs us.toList) (h : partS P t vs off = some v) :
    ∃ u, (part t us off).run P w = .ok u w ∧ VRel P ω w Im θ v u := by
  unfold partS at h
  cases hu : P.underlying t with
  | none => simp [hu] at h
  | some d =>
    obtain ⟨i, hi⟩ := info_of_underlying hu
    by_cases hd : isAggT P t = true
    · have h' : ∃ cs, takeN vs off (P.cellsOf t) = some cs ∧ v = .agg cs := by
        simp only [hu] at h
        simp only [isAggT, hu] at hd
        cases d <;> simp at hd <;> (simp only at h; cases ht : takeN vs off (P.cellsOf t) <;> simp [ht] at h; exact ⟨_, rfl, h.symm⟩)
      obtain ⟨cs, hcs, rfl⟩ := h'
      obtain ⟨hlen, rfl⟩ := takeN_spec _ _ _ _ hcs
      refine ⟨.agg (us.extract off (off + P.cellsOf t)), ?_, ?_⟩
      · unfold part
        simp [run_isAgg hu, hd, run_sizeOf' hi]
      · have := hl.part off (P.cellsOf t)
        refine .agg ?_ (fun i v u hv hu => ?_)
        · rw [this.len]; simp [Array.size_extract, List.length_take, List.length_drop]; omega
        · refine this.at_ i v u hv ?_
          rw [← hu]
          simp only [List.getElem?_take, List.getElem?_drop, Array.getElem?_extract, Array.getElem?_toList]
          by_cases hi : i < P.cellsOf t
          · have : i < min (off + P.cellsOf t) us.size - off := by
              have := hl.len; simp at this; omega
            simp [hi, this]
          · have : ¬ i < min (off + P.cellsOf t) us.size - off := by omega
            simp [hi, this]
    · have hf : isAggT P t = false := by simpa using hd
      have h' : vs[off]? = some v := by
        rw [← nth?_eq]
        simp only [hu] at h
        simp only [isAggT, hu] at hf
        cases d <;> simp at hf <;> exact h
      have hlt : off < vs.length := by
        rcases Nat.lt_or_ge off vs.length with h1 | h1
        · exact h1
        · simp [List.getElem?_eq_none h1] at h'
      have hlt' : off < us.size := by have := hl.len; simp at this; omega
      refine ⟨us[off], ?_, hl.at_ off v _ h' (by simp [hlt'])⟩
      unfold part
      simp [run_isAgg hu, hf, hlt']

theorem add_off (b o n : Nat) : (⟨b, o, none⟩ : Addr).add n = ⟨b, o + n, none⟩ := by unfold Addr.add; split <;> simp_all

theorem run_loadVar_rel {w : World} {Im : Nat → Prop} {θ : Th} {vs : List SV} {cs : Array Value} {t T : TypeId} {fr : Nat × Nat} {b off : Nat} {v : SV} (hb : w.heap[b]? = some (.cells cs T fr)) (hl : LRel P ω w Im θ vs cs.toList) (h : partS P t vs off = some v) :
    ∃ u, (loadVar t ⟨b, off, none⟩).run P w = .ok u w ∧ VRel P ω w Im θ v u := by
  unfold partS at h
  cases hu : P.underlying t with
  | none => simp [hu] at h
  | some d =>
    obtain ⟨i, hi⟩ := info_of_underlying hu
    by_cases hd : isAggT P t = true
    · have h' : ∃ cs, takeN vs off (P.cellsOf t) = some cs ∧ v = .agg cs := by
        simp only [hu] at h
        simp only [isAggT, hu] at hd
        cases d <;> simp at hd <;> (simp only at h; cases ht : takeN vs off (P.cellsOf t) <;> simp [ht] at h; exact ⟨_, rfl, h.symm⟩)
      obtain ⟨l, hcs, rfl⟩ := h'
      obtain ⟨hlen, rfl⟩ := takeN_spec _ _ _ _ hcs
      have hp := hl.part off (P.cellsOf t)
      refine ⟨.agg ((cs.toList.drop off).take (P.cellsOf t)).toArray, ?_, ?_⟩
      · have hload := run_loadCells_list (P := P) w ⟨b, off, none⟩ ((cs.toList.drop off).take (P.cellsOf t)) (fun j v hj => by
          rw [List.getElem?_take] at hj
          split at hj
          · rw [List.getElem?_drop, Array.getElem?_toList] at hj
            rw [add_off]
            simp only [World.cell?, hb]
            simpa using hj
          · cases hj)
        have hn : ((cs.toList.drop off).take (P.cellsOf t)).length = P.cellsOf t := by
          have := hl.len; simp at this; simp; omega
        rw [hn] at hload
        unfold loadVar
        simp [run_isAgg hu, hd, run_sizeOf' hi, hload]
      · exact .agg (by rw [hp.len]; simp) (fun i v u hv hu => hp.at_ i v u hv (by simpa using hu))
    · have hf : isAggT P t = false := by simpa using hd
      have h' : vs[off]? = some v := by
        rw [← nth?_eq]
        simp only [hu] at h
        simp only [isAggT, hu] at hf
        cases d <;> simp at hf <;> exact h
      have hlt : off < vs.length := by
        rcases Nat.lt_or_ge off vs.length with h1 | h1
        · exact h1
        · simp [List.getElem?_eq_none h1] at h'
      have hlt' : off < cs.size := by have := hl.len; simp at this; omega
      refine ⟨cs[off], ?_, hl.at_ off v _ h' (by simp [hlt'])⟩
      have hc : w.cell? ⟨b, off, none⟩ = some cs[off] := by simp [World.cell?, hb, hlt']
      unfold loadVar
      simp [run_isAgg hu, hf, hc]

theorem run_storeCells_fine (P : Program) (g o : Nat) (t : TypeId) (fz : Nat × Nat) : ∀ (vs : List Value) (i : Nat) (cur : Array Value) (w : World), w.heap[g]? = some (.cells cur t fz) → fine cur.size fz → o + i + vs.length ≤ cur.size → (∀ v ∈ vs, v.oneCell' = true) →
    (storeCells ⟨g, o, none⟩ vs i).run P w = .ok () (w.setRow g (cur.toList.take (o + i) ++ vs ++ cur.toList.drop (o + i + vs.length)).toArray)
  | [], i, cur, w, hg, _, _, _ => by
    simp only [storeCells, List.append_nil, List.length_nil, Nat.add_zero, List.take_append_drop, Array.toArray_toList]
    rw [setRow_self w g cur t fz hg]
    rfl
  | v :: rest, i, cur, w, hg, hfz, hl, h1 => by
    have hi : o + i < cur.size := by simp at hl; omega
    have hcell : w.cell? ⟨g, o + i, none⟩ = some cur[o + i] := by simp [World.cell?, hg, hi]
    have hfro : w.frozen? ⟨g, o + i, none⟩ = false := by
      have := hfz (o + i) hi
      obtain ⟨lo, hi'⟩ := fz
      simp only [World.frozen?, hg, Bool.and_eq_false_iff, decide_eq_false_iff_not]
      simp only at this
      omega
    have hst : (store ((⟨g, o, none⟩ : Addr).add i) v).run P w = .ok () (w.setRow g (cur.setIfInBounds (o + i) v)) := by
      rw [add_off, run_store P w _ v _ (h1 v (by simp)), hcell]
      simp [hfro, setCell_eq_setRow w g (o + i) cur t fz v hg]
    have ih := run_storeCells_fine P g o t fz rest (i + 1) (cur.setIfInBounds (o + i) v) (w.setRow g (cur.setIfInBounds (o + i) v)) (setRow_heap w g cur _ t _ hg) (by simpa using hfz) (by simp at hl ⊢; omega) (fun x hx => h1 x (by simp [hx]))
    simp only [storeCells, Sem.run_bind, hst, Result.andThen_ok, ih, setRow_setRow]
    congr 3
    have e := list_seg_step cur.toList (o + i) v rest (by simp at hl ⊢; omega)
    simpa [Array.toList_setIfInBounds, Nat.add_assoc] using e

end Go.Am
