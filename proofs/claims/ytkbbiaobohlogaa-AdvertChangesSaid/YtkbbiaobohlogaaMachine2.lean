/- The abstract machine: its operations against the model's, one by one. -/
import Derived.Test.YtkbbiaobohlogaaMachine1
import Derived.ChangeKeysEq
import Derived.Laws.MakeOwn
import Derived.RangeFuncRecord
set_option linter.unusedVariables false
set_option linter.unusedSimpArgs false
namespace Go.Am
variable {P : Program} {ω : Nat → Value}
def FR (ρ : Option Nat) : Fence := { Fence.wide with round := ρ }
theorem FR_depth (ρ : Option Nat) : (FR ρ).depth = none := rfl
theorem FR_fn (ρ : Option Nat) (f : FuncId) : (FR ρ).fn f := trivial
theorem callsIn_FR {ρ : Option Nat} {n : Nat} {f : FuncId} {args : Array Value} {w : World} {R : Ending → World → Prop} (h : Calls P f args w R) : CallsIn (FR ρ) n P f args w R :=
 (callsIn_wide (n := n)).2 h
theorem FR_depth1 (ρ : Option Nat) {n : Nat} : (FR ρ).depth.isSome = true → 1 ≤ n := fun h => by simp [FR_depth] at h
theorem semAt_value {ρ : Option Nat} {ev : Operand → Value} {o : Oper} {w w' : World} {v : Value} (h : (execOp ev o).run P w = .ok (.value v) w') : (o.semAt ρ ev).run P w = .ok (.value v) w' := by
 by_cases hd : ∃ c, o.op = .defer c
 · obtain ⟨c, hc⟩ := hd
   obtain ⟨dst, op, type, pos, after, guard⟩ := o
   simp only at hc
   subst hc
   simp only [execOp, Sem.run_bind] at h
   cases hr : (resolve ev c type).run P w <;> simp [hr, Result.andThen] at h
 · rw [Oper.semAt_eq ρ ev o (fun c hc => hd ⟨c, hc⟩)]; exact h
theorem semAt_skip {ρ : Option Nat} {ev : Operand → Value} {o : Oper} {w w' : World} (h : (execOp ev o).run P w = .ok .skip w') : (o.semAt ρ ev).run P w = .ok .skip w' := by
 by_cases hd : ∃ c, o.op = .defer c
 · obtain ⟨c, hc⟩ := hd
   obtain ⟨dst, op, type, pos, after, guard⟩ := o
   simp only at hc
   subst hc
   simp only [execOp, Sem.run_bind] at h
   cases hr : (resolve ev c type).run P w <;> simp [hr, Result.andThen] at h
 · rw [Oper.semAt_eq ρ ev o (fun c hc => hd ⟨c, hc⟩)]; exact h
def Good (P : Program) (ω : Nat → Value) (o : Oper) (a : Act) (w : World) (Im : Nat → Prop) (θ : Th) (h : HpF) (r : SV) (ups : List (Nat × Option Chunk)) (nx nx' : Nat) : Prop :=
 ∀ (ρ : Option Nat) (K : Act → World → Prop) (Q : Exit → Act → World → Prop),
  (∀ v w' Im' θ', Ext (fun x => nx ≤ x ∧ x < nx') h w Im θ (updF ups h) w' Im' θ' → VRel P ω w' Im' θ' r v → HRel P ω w' Im' θ' (updF ups h) → K (a.put o.dst v) w') → o.wpIn (FR ρ) 0 P a w K Q
theorem good_run {o : Oper} {a : Act} {w w' : World} {Im Im' : Nat → Prop} {θ θ' : Th} {h : HpF} {r : SV} {ups : List (Nat × Option Chunk)} {nx nx' : Nat} {v : Value}
  (hrun : (execOp a.eval o).run P w = .ok (.value v) w') (he : Ext (fun x => nx ≤ x ∧ x < nx') h w Im θ (updF ups h) w' Im' θ')
  (hv : VRel P ω w' Im' θ' r v) (hr : HRel P ω w' Im' θ' (updF ups h)) : Good P ω o a w Im θ h r ups nx nx' := by
 intro ρ K Q hK
 refine ⟨fun f _ => FR_fn ρ f, ?_⟩
 rw [show (FR ρ).round = ρ from rfl, semAt_value hrun]
 exact hK v w' Im' θ' he hv hr
theorem good_value {o : Oper} {a : Act} {w : World} {Im : Nat → Prop} {θ : Th} {h : HpF} {r : SV} {nx : Nat} {v : Value}
  (hr : HRel P ω w Im θ h) (hrun : (execOp a.eval o).run P w = .ok (.value v) w) (hv : VRel P ω w Im θ r v) : Good P ω o a w Im θ h r [] nx nx :=
 good_run hrun (Ext.refl _) hv hr
theorem good_skip {o : Oper} {a : Act} {w w' : World} {Im Im' : Nat → Prop} {θ θ' : Th} {h : HpF} {ups : List (Nat × Option Chunk)} {nx nx' : Nat}
  (hrun : (execOp a.eval o).run P w = .ok .skip w') (he : Ext (fun x => nx ≤ x ∧ x < nx') h w Im θ (updF ups h) w' Im' θ')
  (hr : HRel P ω w' Im' θ' (updF ups h)) : Good P ω o a w Im θ h .junk ups nx nx' := by
 intro ρ K Q hK
 refine ⟨fun f _ => FR_fn ρ f, ?_⟩
 rw [show (FR ρ).round = ρ from rfl, semAt_skip hrun]
 exact hK undef w' Im' θ' he .junk hr
/- Single cells. -/
theorem one_of_oneS {w : World} {Im : Nat → Prop} {θ : Th} {v : SV} {u : Value} (hv : VRel P ω w Im θ v u) (h : oneS v = true) : u.oneCell' = true := by
 cases hv <;> first | rfl | simp [oneS] at h
theorem LRel.one {w : World} {Im : Nat → Prop} {θ : Th} {cs : List SV} {us : List Value} (hl : LRel P ω w Im θ cs us) (h : allOne cs = true) : ∀ u ∈ us, u.oneCell' = true := by
 obtain ⟨hlen, hat⟩ := hl
 induction cs generalizing us with
 | nil => cases us with
  | nil => simp
  | cons => simp at hlen
 | cons c cs ih => cases us with
  | nil => simp at hlen
  | cons u us =>
   simp only [allOne, Bool.and_eq_true] at h
   intro x hx
   rcases List.mem_cons.1 hx with rfl | hx
   · exact one_of_oneS (hat 0 c _ rfl rfl) h.1
   · exact ih h.2 (by simpa using hlen) (fun i v u hv hu => hat (i + 1) v u (by simpa using hv) (by simpa using hu)) x hx
theorem cells_one {u : Value} (h : u.oneCell' = true) : u.cells = #[u] := by
 cases u <;> first | rfl | simp [Value.oneCell'] at h
theorem oneS_one {v : SV} {cs : List SV} (h : cellsS v = some cs) : allOne cs = true := by
 cases v <;> simp [cellsS] at h <;> try (subst h; rfl)
 rename_i l
 cases hh : allOne l <;> simp [hh] at h
 subst h; exact hh
theorem cells_rel {w : World} {Im : Nat → Prop} {θ : Th} {v : SV} {u : Value} {cs : List SV} (hv : VRel P ω w Im θ v u) (h : cellsS v = some cs) : LRel P ω w Im θ cs u.cells.toList := by
 cases hv with
 | junk => simp [cellsS] at h
 | opq => simp [cellsS] at h
 | tup => simp [cellsS] at h
 | agg h1 h2 =>
  rename_i l us
  have : cs = l := by
   simp only [cellsS] at h
   cases hh : allOne l <;> simp [hh] at h
   exact h.symm
  subst this
  exact ⟨by simpa [Value.cells] using h1, fun i v u hv hu => h2 i v u hv (by simpa [Value.cells] using hu)⟩
 | _ =>
  simp only [cellsS, Option.some.injEq] at h
  subst h
  refine ⟨by simp [Value.cells], fun i v u hv hu => ?_⟩
  cases i with
  | zero =>
   simp [Value.cells] at hv hu
   subst hv; subst hu
   constructor <;> assumption
  | succ i => simp at hv
theorem LRel.mono {w w' : World} {Im Im' : Nat → Prop} {θ θ' : Th} {cs : List SV} {us : List Value} (hl : LRel P ω w Im θ cs us) (hI : ∀ b, Im b → Im' b ∧ w'.heap[b]? = w.heap[b]?)
  (hθ : ∀ x p, θ x = some p → θ' x = some p) : LRel P ω w' Im' θ' cs us :=
 ⟨hl.len, fun i v u hv hu => (hl.at_ i v u hv hu).mono hI hθ⟩
theorem CRel.mono {w w' : World} {Im Im' : Nat → Prop} {θ θ' : Th} {x : Nat} {c : Chunk} (hc : CRel P ω w Im θ x c) (hI : ∀ b, Im b → Im' b ∧ w'.heap[b]? = w.heap[b]?)
  (hθ : ∀ x p, θ x = some p → θ' x = some p) (hx : θ' x = θ x) (hb : ∀ b N, θ x = some (b, N) → w'.heap[b]? = w.heap[b]?) : CRel P ω w' Im' θ' x c := by
 cases c with
 | cells T vs =>
  obtain ⟨b, cs, fr, h1, h2, h3, h4⟩ := hc
  exact ⟨b, cs, fr, by rw [hx]; exact h1, by rw [hb b _ h1]; exact h2, h3, h4.mono hI hθ⟩
 | seq e es =>
  rcases hc with ⟨h1, h2⟩ | ⟨b, N, cs, T, fr, us, h1, h2, h3, h4, h5, h6, h7⟩
  · exact .inl ⟨h1, by rw [hx]; exact h2⟩
  · refine .inr ⟨b, N, cs, T, fr, us, by rw [hx]; exact h1, by rw [hb b _ h1]; exact h2, h3, h4, h5, h6, fun i v hv => ?_⟩
    exact ⟨(h7 i v hv).1.mono hI (fun _ _ h => h), (h7 i v hv).2⟩
 | loopr st vs ps asg bdy =>
  obtain ⟨b, N, lp, h1, h2, h3, h4, h5, h6, h7⟩ := hc
  exact ⟨b, N, lp, by rw [hx]; exact h1, by rw [hb b _ h1]; exact h2, h3, h4, h5, h6, h7.mono hI hθ⟩
 | mpc ks vs =>
  obtain ⟨b, N, es, cl, h1, h2, h3, h4, h5⟩ := hc
  exact ⟨b, N, es, cl, by rw [hx]; exact h1, by rw [hb b _ h1]; exact h2, h3.mono hI hθ, h4.mono hI hθ, h5⟩
 | mpb kd kvs =>
  obtain ⟨b, N, es, cl, h1, h2, h3, h4, h5⟩ := hc
  exact ⟨b, N, es, cl, by rw [hx]; exact h1, by rw [hb b _ h1]; exact h2, h3.mono hI hθ, h4.mono hI hθ, h5⟩
 | mpn bs cl ks vs =>
  obtain ⟨b, N, es, h1, h2, h3, h4, h5⟩ := hc
  exact ⟨b, N, es, by rw [hx]; exact h1, by rw [hb b _ h1]; exact h2, h3.mono hI hθ, h4.mono hI hθ, h5⟩
 | ext c =>
  show XRel P w' Im' (θ' x) c
  rw [hx]
  exact XRel.mono hc hI hb
 | sqp e es =>
  obtain ⟨b, N, cs, fr, h1, h2, h3, h4, h5, h6⟩ := hc
  exact ⟨b, N, cs, fr, by rw [hx]; exact h1, by rw [hb b _ h1]; exact h2, h3, h4, h5, h6.mono hI hθ⟩
 | sqo e es =>
  obtain ⟨b, off, cap, cs, fr, us, h1, h2, h3, h4, h5, h6, h7⟩ := hc
  exact ⟨b, off, cap, cs, fr, us, by rw [hx]; exact h1, by rw [hb b _ h1]; exact h2, h3, h4, h5, h6, fun i v hv => ⟨(h7 i v hv).1.mono hI (fun _ _ h => h), (h7 i v hv).2⟩⟩
 | mit z since seen last =>
  obtain ⟨b, N, zb, zN, h1, h2, h3⟩ := hc
  exact ⟨b, N, zb, zN, by rw [hx]; exact h1, hθ _ _ h2, by rw [hb b _ h1]; exact h3⟩
theorem alloc_old (w : World) (o : Obj) (b : Nat) (h : b < w.heap.size) : (w.alloc o).heap[b]? = w.heap[b]? := by
 show (w.heap.push o)[b]? = _
 rw [Array.getElem?_push, if_neg (Nat.ne_of_lt h)]
theorem alloc_new (w : World) (o : Obj) : (w.alloc o).heap[w.heap.size]? = some o := by
 show (w.heap.push o)[w.heap.size]? = _
 rw [Array.getElem?_push, if_pos rfl]
/- A new row of cells. -/
theorem alloc_ok {w : World} {Im : Nat → Prop} {θ : Th} {h : HpF} (hr : HRel P ω w Im θ h) {nx : Nat} (hθ : θ nx = none) {vs : List SV} {us : List Value} {T : TypeId} (hl : LRel P ω w Im θ vs us) :
  ∃ θ', Ext (fun x => nx ≤ x ∧ x < nx + 1) h w Im θ (updF [(nx, some (.cells T vs))] h) (w.alloc (.cells us.toArray T)) Im θ' ∧
   HRel P ω (w.alloc (.cells us.toArray T)) Im θ' (updF [(nx, some (.cells T vs))] h) ∧ θ' nx = some (w.heap.size, vs.length) := by
 let θ' : Th := fun x => if x = nx then some (w.heap.size, vs.length) else θ x
 have hup : ∀ x p, θ x = some p → θ' x = some p := by
  intro x p hp
  by_cases hx : x = nx
  · subst hx; rw [hθ] at hp; cases hp
  · simp [θ', hx, hp]
 have hold : ∀ b, b < w.heap.size → (w.alloc (.cells us.toArray T)).heap[b]? = w.heap[b]? := fun b hb => alloc_old w _ b hb
 have hI : ∀ b, Im b → Im b ∧ (w.alloc (.cells us.toArray T)).heap[b]? = w.heap[b]? := fun b hb => ⟨hb, hold b (hr.im b hb)⟩
 refine ⟨θ', ?_, ?_, by simp [θ']⟩
 · refine ⟨?_, hup, fun _ h => h, by simp, fun b hb _ => hold b hb, fun b hb => .inl hb, ?_, rfl, rfl, rfl, Nat.le_refl _⟩
   · intro x hx
     have : x ≠ nx := by intro e; subst e; exact hx ⟨Nat.le_refl _, Nat.lt_succ_self _⟩
     simp [θ', this]
   · intro x c b N hx hb
     by_cases hxn : x = nx
     · subst hxn
       simp [θ'] at hb
       exact .inr (by omega)
     · simp [θ', hxn] at hb
       simp [updF, hxn] at hx
       exact .inl ⟨x, c, N, hx, hb⟩
 · refine ⟨?_, ?_, ?_, fun b hb => by have := hr.im b hb; simp; omega, hr.gl.mono hI⟩
   · intro x c hx
     by_cases hxn : x = nx
     · subst hxn
       simp [updF] at hx
       subst hx
       refine ⟨w.heap.size, us.toArray, (0, 0), by simp [θ'], alloc_new w _, fun i _ hh => by omega, ?_⟩
       exact hl.mono hI hup
     · simp [updF, hxn] at hx
       exact (hr.at_ x c hx).mono hI hup (by simp [θ', hxn]) (fun b N hb => hold b (hr.own x c b N hx hb).2)
   · intro x y c c' b N N' hx hy hb hb'
     by_cases hxn : x = nx
     · by_cases hyn : y = nx
       · rw [hxn, hyn]
       · simp [updF, hyn] at hy
         simp [θ', hyn] at hb'
         simp [θ', hxn] at hb
         have := (hr.own y c' b N' hy hb').2
         omega
     · by_cases hyn : y = nx
       · simp [updF, hxn] at hx
         simp [θ', hxn] at hb
         simp [θ', hyn] at hb'
         have := (hr.own x c b N hx hb).2
         omega
       · simp [updF, hxn] at hx
         simp [updF, hyn] at hy
         simp [θ', hxn] at hb
         simp [θ', hyn] at hb'
         exact hr.inj x y c c' b N N' hx hy hb hb'
   · intro x c b N hx hb
     by_cases hxn : x = nx
     · simp [θ', hxn] at hb
       refine ⟨fun hi => ?_, by simp; omega⟩
       have := hr.im b hi
       omega
     · simp [updF, hxn] at hx
       simp [θ', hxn] at hb
       have := hr.own x c b N hx hb
       exact ⟨this.1, by simp; omega⟩
/- A row that is written. -/
theorem write_ok {w : World} {Im : Nat → Prop} {θ : Th} {h : HpF} (hr : HRel P ω w Im θ h) {nx x : Nat} {T : TypeId} {vs vs' : List SV} {us' : List Value} (hx : h x = some (.cells T vs))
  {b : Nat} {cs : Array Value} {fr : Nat × Nat} (hθ : θ x = some (b, vs.length)) (hb : w.heap[b]? = some (.cells cs T fr)) (hf : fine cs.size fr) (hcs : cs.size = vs.length)
  (hlen : vs'.length = vs.length) (hl : LRel P ω w Im θ vs' us') :
  Ext (fun x => nx ≤ x ∧ x < nx) h w Im θ (updF [(x, some (.cells T vs'))] h) (w.setRow b us'.toArray) Im θ ∧
   HRel P ω (w.setRow b us'.toArray) Im θ (updF [(x, some (.cells T vs'))] h) := by
 have hown := hr.own x _ b _ hx hθ
 have hI : ∀ d, Im d → Im d ∧ (w.setRow b us'.toArray).heap[d]? = w.heap[d]? := fun d hd => ⟨hd, Go.setRow_other w b d _ (fun e => hown.1 (e ▸ hd))⟩
 have hnew : (w.setRow b us'.toArray).heap[b]? = some (.cells us'.toArray T fr) := setRow_heap w b cs _ T fr hb
 refine ⟨⟨fun _ _ => rfl, fun _ _ h => h, fun _ h => h, by simp [World.setRow], ?_, fun d hd => .inl hd, ?_, rfl, rfl, rfl, Nat.le_refl _⟩, ?_, ?_, ?_, fun d hd => by simpa [World.setRow] using hr.im d hd, hr.gl.mono hI⟩
 · intro d hd hno
   exact Go.setRow_other w b d _ (fun e => hno x _ _ hx (e ▸ hθ))
 · intro y c d N hy hd
   by_cases hyx : y = x
   · subst hyx; exact .inl ⟨y, _, N, hx, hd⟩
   · simp [updF, hyx] at hy; exact .inl ⟨y, c, N, hy, hd⟩
 · intro y c hy
   by_cases hyx : y = x
   · subst hyx
     simp [updF] at hy
     subst hy
     refine ⟨b, us'.toArray, fr, by rw [hlen]; exact hθ, hnew, ?_, hl.mono hI (fun _ _ h => h)⟩
     have : us'.toArray.size = cs.size := by simp [← hl.len, hlen, hcs]
     rw [this]; exact hf
   · simp [updF, hyx] at hy
     refine (hr.at_ y c hy).mono hI (fun _ _ h => h) rfl (fun d N hd => Go.setRow_other w b d _ (fun e => ?_))
     subst e
     exact hyx (hr.inj y x c _ d N _ hy hx hd hθ)
 · intro y z c c' d N N' hy hz hd hd'
   have hy' : ∃ c, h y = some c := by
    by_cases hyx : y = x
    · exact ⟨_, hyx ▸ hx⟩
    · simp [updF, hyx] at hy; exact ⟨_, hy⟩
   have hz' : ∃ c, h z = some c := by
    by_cases hzx : z = x
    · exact ⟨_, hzx ▸ hx⟩
    · simp [updF, hzx] at hz; exact ⟨_, hz⟩
   obtain ⟨c1, h1⟩ := hy'
   obtain ⟨c2, h2⟩ := hz'
   exact hr.inj y z c1 c2 d N N' h1 h2 hd hd'
 · intro y c d N hy hd
   have hy' : ∃ c, h y = some c := by
    by_cases hyx : y = x
    · exact ⟨_, hyx ▸ hx⟩
    · simp [updF, hyx] at hy; exact ⟨_, hy⟩
   obtain ⟨c1, h1⟩ := hy'
   have := hr.own y c1 d N h1 hd
   exact ⟨this.1, by simpa [World.setRow] using this.2⟩
/- Constants. -/
theorem ofScalar_rel (w : World) (Im : Nat → Prop) (θ : Th) (v : Value) : VRel P ω w Im θ (ofScalar v) v := by
 unfold ofScalar
 split <;> first
  | exact .bool
  | exact .int
  | exact .str rfl
  | exact .nilp
  | exact .nils
  | exact .nilm
  | exact .nilf
  | exact .nili
  | exact .junk
theorem ofValue_rel (w : World) (Im : Nat → Prop) (θ : Th) (v : Value) : VRel P ω w Im θ (ofValue v) v := by
 unfold ofValue
 split
 · refine .agg (by simp) (fun i v u hv hu => ?_)
   simp only [List.getElem?_map, Option.map_eq_some_iff] at hv
   obtain ⟨c, hc, rfl⟩ := hv
   rw [Array.getElem?_toList] at hc
   rw [hc] at hu
   cases hu
   exact ofScalar_rel w Im θ _
 · exact .iface (ofScalar_rel w Im θ _)
 · exact ofScalar_rel w Im θ _
/- Lists. -/
theorem takeN_spec {α : Type} : ∀ (l : List α) (o n : Nat) (r : List α), takeN l o n = some r → o + n ≤ l.length ∧ r = (l.drop o).take n
 | l, 0, 0, r, h => by simp [takeN] at h; subst h; simp
 | [], o + 1, n, r, h => by simp [takeN] at h
 | [], 0, n + 1, r, h => by simp [takeN] at h
 | x :: l, o + 1, n, r, h => by
  have h' : takeN l o n = some r := by simpa [takeN] using h
  have := takeN_spec l o n r h'
  exact ⟨by simp; omega, by simpa using this.2⟩
 | x :: l, 0, n + 1, r, h => by
  simp only [takeN] at h
  cases hr : takeN l 0 n with
  | none => simp [hr] at h
  | some q =>
   have := takeN_spec l 0 n q hr
   simp [hr] at h
   subst h
   exact ⟨by simp; omega, by simpa using this.2⟩
theorem splice_spec {α : Type} : ∀ (l : List α) (o : Nat) (vs r : List α), splice l o vs = some r → o + vs.length ≤ l.length ∧ r = l.take o ++ vs ++ l.drop (o + vs.length)
 | l, 0, [], r, h => by simp [splice] at h; subst h; simp
 | [], o + 1, vs, r, h => by simp [splice] at h
 | [], 0, _ :: _, r, h => by simp [splice] at h
 | x :: l, o + 1, vs, r, h => by
  simp only [splice] at h
  cases hr : splice l o vs with
  | none => simp [hr] at h
  | some q =>
   have := splice_spec l o vs q hr
   simp [hr] at h
   subst h
   refine ⟨by simp; omega, ?_⟩
   rw [this.2]
   have : o + 1 + vs.length = (o + vs.length) + 1 := by omega
   simp [this]
 | x :: l, 0, v :: vs, r, h => by
  simp only [splice] at h
  cases hr : splice l 0 vs with
  | none => simp [hr] at h
  | some q =>
   have := splice_spec l 0 vs q hr
   simp [hr] at h
   subst h
   refine ⟨by simp; omega, ?_⟩
   rw [this.2]
   simp
theorem nth?_eq {α : Type} : ∀ (l : List α) (n : Nat), nth? l n = l[n]?
 | [], _ => by simp [nth?]
 | _ :: _, 0 => rfl
 | _ :: l, n + 1 => by simpa [nth?] using nth?_eq l n
theorem LRel.part {w : World} {Im : Nat → Prop} {θ : Th} {vs : List SV} {us : List Value} (hl : LRel P ω w Im θ vs us) (o n : Nat) : LRel P ω w Im θ ((vs.drop o).take n) ((us.drop o).take n) := by
 refine ⟨by simp [hl.len], fun i v u hv hu => ?_⟩
 rw [List.getElem?_take] at hv hu
 split at hv
 · rename_i hi
   rw [if_pos hi] at hu
   rw [List.getElem?_drop] at hv hu
   exact hl.at_ _ _ _ hv hu
 · cases hv
theorem LRel.append {w : World} {Im : Nat → Prop} {θ : Th} {as bs : List SV} {us vs : List Value} (h1 : LRel P ω w Im θ as us) (h2 : LRel P ω w Im θ bs vs) : LRel P ω w Im θ (as ++ bs) (us ++ vs) := by
 refine ⟨by simp [h1.len, h2.len], fun i v u hv hu => ?_⟩
 rw [List.getElem?_append] at hv hu
 split at hv
 · rename_i hi
   rw [if_pos (h1.len ▸ hi)] at hu
   exact h1.at_ _ _ _ hv hu
 · rename_i hi
   rw [if_neg (h1.len ▸ hi)] at hu
   rw [← h1.len] at hu
   exact h2.at_ _ _ _ hv hu
theorem LRel.dropL {w : World} {Im : Nat → Prop} {θ : Th} {vs : List SV} {us : List Value} (hl : LRel P ω w Im θ vs us) (o : Nat) : LRel P ω w Im θ (vs.drop o) (us.drop o) := by
 refine ⟨by simp [hl.len], fun i v u hv hu => ?_⟩
 rw [List.getElem?_drop] at hv hu
 exact hl.at_ _ _ _ hv hu
theorem LRel.takeL {w : World} {Im : Nat → Prop} {θ : Th} {vs : List SV} {us : List Value} (hl : LRel P ω w Im θ vs us) (n : Nat) : LRel P ω w Im θ (vs.take n) (us.take n) := by
 simpa using hl.part 0 n
/- Types. -/
theorem info_of_underlying {t : TypeId} {d : TypeDesc} (h : P.underlying t = some d) : ∃ i, P.info? t = some i := by
 unfold Program.underlying at h
 split at h
 · exact ⟨_, by assumption⟩
 · exact ⟨_, by assumption⟩
 · cases h
theorem run_sizeOf' {t : TypeId} {i : TypeInfo} (h : P.info? t = some i) (w : World) : (sizeOf t).run P w = .ok (P.cellsOf t) w := run_sizeOf w h
theorem info_of_cells {t : TypeId} (h : P.cellsOf t ≠ 0) : ∃ i, P.info? t = some i := by
 unfold Program.cellsOf at h
 cases hi : P.info? t with
 | some i => exact ⟨i, rfl⟩
 | none => simp [hi] at h
theorem run_isAgg {t : TypeId} {d : TypeDesc} (h : P.underlying t = some d) (w : World) : (isAgg t).run P w = .ok (isAggT P t) w := by
 unfold isAgg isAggT
 simp only [Sem.run_bind, run_underlying h, Result.andThen_ok, h]
 cases d <;> rfl
theorem run_part_rel {w : World} {Im : Nat → Prop} {θ : Th} {vs : List SV} {us : Array Value} {t : TypeId} {off : Nat} {v : SV} (hl : LRel P ω w Im θ vs us.toList) (h : partS P t vs off = some v) :
  ∃ u, (part t us off).run P w = .ok u w ∧ VRel P ω w Im θ v u := by
 unfold partS at h
 cases hu : P.underlying t with
 | none => simp [hu] at h
 | some d =>
  obtain ⟨i, hi⟩ := info_of_underlying hu
  by_cases hd : isAggT P t = true
  · have h' : ∃ cs, takeN vs off (P.cellsOf t) = some cs ∧ v = .agg cs := by
      simp only [hu] at h
      simp only [isAggT, hu] at hd
      cases d <;> simp at hd <;> (simp only at h; cases ht : takeN vs off (P.cellsOf t) <;> simp [ht] at h; exact ⟨_, rfl, h.symm⟩)
    obtain ⟨cs, hcs, rfl⟩ := h'
    obtain ⟨hlen, rfl⟩ := takeN_spec _ _ _ _ hcs
    refine ⟨.agg (us.extract off (off + P.cellsOf t)), ?_, ?_⟩
    · unfold part
      simp [run_isAgg hu, hd, run_sizeOf' hi]
    · have := hl.part off (P.cellsOf t)
      refine .agg ?_ (fun i v u hv hu => ?_)
      · rw [this.len]; simp [Array.size_extract, List.length_take, List.length_drop]; omega
      · refine this.at_ i v u hv ?_
        rw [← hu]
        simp only [List.getElem?_take, List.getElem?_drop, Array.getElem?_extract, Array.getElem?_toList]
        by_cases hi : i < P.cellsOf t
        · have : i < min (off + P.cellsOf t) us.size - off := by
            have := hl.len; simp at this; omega
          simp [hi, this]
        · have : ¬ i < min (off + P.cellsOf t) us.size - off := by omega
          simp [hi, this]
  · have hf : isAggT P t = false := by simpa using hd
    have h' : vs[off]? = some v := by
     rw [← nth?_eq]
     simp only [hu] at h
     simp only [isAggT, hu] at hf
     cases d <;> simp at hf <;> exact h
    have hlt : off < vs.length := by
     rcases Nat.lt_or_ge off vs.length with h1 | h1
     · exact h1
     · simp [List.getElem?_eq_none h1] at h'
    have hlt' : off < us.size := by have := hl.len; simp at this; omega
    refine ⟨us[off], ?_, hl.at_ off v _ h' (by simp [hlt'])⟩
    unfold part
    simp [run_isAgg hu, hf, hlt']
theorem add_off (b o n : Nat) : (⟨b, o, none⟩ : Addr).add n = ⟨b, o + n, none⟩ := by unfold Addr.add; split <;> simp_all
theorem run_loadVar_rel {w : World} {Im : Nat → Prop} {θ : Th} {vs : List SV} {cs : Array Value} {t T : TypeId} {fr : Nat × Nat} {b off : Nat} {v : SV} (hb : w.heap[b]? = some (.cells cs T fr)) (hl : LRel P ω w Im θ vs cs.toList) (h : partS P t vs off = some v) :
  ∃ u, (loadVar t ⟨b, off, none⟩).run P w = .ok u w ∧ VRel P ω w Im θ v u := by
 unfold partS at h
 cases hu : P.underlying t with
 | none => simp [hu] at h
 | some d =>
  obtain ⟨i, hi⟩ := info_of_underlying hu
  by_cases hd : isAggT P t = true
  · have h' : ∃ cs, takeN vs off (P.cellsOf t) = some cs ∧ v = .agg cs := by
      simp only [hu] at h
      simp only [isAggT, hu] at hd
      cases d <;> simp at hd <;> (simp only at h; cases ht : takeN vs off (P.cellsOf t) <;> simp [ht] at h; exact ⟨_, rfl, h.symm⟩)
    obtain ⟨l, hcs, rfl⟩ := h'
    obtain ⟨hlen, rfl⟩ := takeN_spec _ _ _ _ hcs
    have hp := hl.part off (P.cellsOf t)
    refine ⟨.agg ((cs.toList.drop off).take (P.cellsOf t)).toArray, ?_, ?_⟩
    · have hload := run_loadCells_list (P := P) w ⟨b, off, none⟩ ((cs.toList.drop off).take (P.cellsOf t)) (fun j v hj => by
        rw [List.getElem?_take] at hj
        split at hj
        · rw [List.getElem?_drop, Array.getElem?_toList] at hj
          rw [add_off]
          simp only [World.cell?, hb]
          simpa using hj
        · cases hj)
      have hn : ((cs.toList.drop off).take (P.cellsOf t)).length = P.cellsOf t := by
       have := hl.len; simp at this; simp; omega
      rw [hn] at hload
      unfold loadVar
      simp [run_isAgg hu, hd, run_sizeOf' hi, hload]
    · exact .agg (by rw [hp.len]; simp) (fun i v u hv hu => hp.at_ i v u hv (by simpa using hu))
  · have hf : isAggT P t = false := by simpa using hd
    have h' : vs[off]? = some v := by
     rw [← nth?_eq]
     simp only [hu] at h
     simp only [isAggT, hu] at hf
     cases d <;> simp at hf <;> exact h
    have hlt : off < vs.length := by
     rcases Nat.lt_or_ge off vs.length with h1 | h1
     · exact h1
     · simp [List.getElem?_eq_none h1] at h'
    have hlt' : off < cs.size := by have := hl.len; simp at this; omega
    refine ⟨cs[off], ?_, hl.at_ off v _ h' (by simp [hlt'])⟩
    have hc : w.cell? ⟨b, off, none⟩ = some cs[off] := by simp [World.cell?, hb, hlt']
    unfold loadVar
    simp [run_isAgg hu, hf, hc]
theorem run_storeCells_fine (P : Program) (g o : Nat) (t : TypeId) (fz : Nat × Nat) : ∀ (vs : List Value) (i : Nat) (cur : Array Value) (w : World), w.heap[g]? = some (.cells cur t fz) → fine cur.size fz → o + i + vs.length ≤ cur.size → (∀ v ∈ vs, v.oneCell' = true) →
  (storeCells ⟨g, o, none⟩ vs i).run P w = .ok () (w.setRow g (cur.toList.take (o + i) ++ vs ++ cur.toList.drop (o + i + vs.length)).toArray)
 | [], i, cur, w, hg, _, _, _ => by
  simp only [storeCells, List.append_nil, List.length_nil, Nat.add_zero, List.take_append_drop, Array.toArray_toList]
  rw [setRow_self w g cur t fz hg]
  rfl
 | v :: rest, i, cur, w, hg, hfz, hl, h1 => by
  have hi : o + i < cur.size := by simp at hl; omega
  have hcell : w.cell? ⟨g, o + i, none⟩ = some cur[o + i] := by simp [World.cell?, hg, hi]
  have hfro : w.frozen? ⟨g, o + i, none⟩ = false := by
   have := hfz (o + i) hi
   obtain ⟨lo, hi'⟩ := fz
   simp only [World.frozen?, hg, Bool.and_eq_false_iff, decide_eq_false_iff_not]
   simp only at this
   omega
  have hst : (store ((⟨g, o, none⟩ : Addr).add i) v).run P w = .ok () (w.setRow g (cur.setIfInBounds (o + i) v)) := by
   rw [add_off, run_store P w _ v _ (h1 v (by simp)), hcell]
   simp [hfro, setCell_eq_setRow w g (o + i) cur t fz v hg]
  have ih := run_storeCells_fine P g o t fz rest (i + 1) (cur.setIfInBounds (o + i) v) (w.setRow g (cur.setIfInBounds (o + i) v)) (setRow_heap w g cur _ t _ hg) (by simpa using hfz) (by simp at hl ⊢; omega) (fun x hx => h1 x (by simp [hx]))
  simp only [storeCells, Sem.run_bind, hst, Result.andThen_ok, ih, setRow_setRow]
  congr 3
  have e := list_seg_step cur.toList (o + i) v rest (by simp at hl ⊢; omega)
  simpa [Array.toList_setIfInBounds, Nat.add_assoc] using e
end Go.Am
/- The abstract machine: '==' of values that are made of bools, integers and strings. -/
namespace Go.Am
variable {P : Program} {ω : Nat → Value}
theorem eqLeaves_cons {a b : SV} {as bs : List SV} {r : Bool} (h : eqLeaves (a :: as) (b :: bs) = some r) : ∃ x y, eqLeaf a b = some x ∧ eqLeaves as bs = some y ∧ r = (x && y) := by
 cases as with
 | nil =>
  cases bs with
  | nil => exact ⟨r, true, by simpa [eqLeaves] using h, rfl, by simp⟩
  | cons =>
   simp only [eqLeaves] at h
   cases h1 : eqLeaf a b <;> simp [h1] at h
 | cons a' as' =>
  simp only [eqLeaves] at h
  cases h1 : eqLeaf a b with
  | none => simp [h1] at h
  | some x =>
   cases h2 : eqLeaves (a' :: as') bs with
   | none => simp [h1, h2] at h
   | some y => exact ⟨x, y, rfl, rfl, by simpa [h1, h2] using h.symm⟩
theorem eqLeaves_split : ∀ (n : Nat) {as bs : List SV} {r : Bool}, eqLeaves as bs = some r → ∃ x y, eqLeaves (as.take n) (bs.take n) = some x ∧ eqLeaves (as.drop n) (bs.drop n) = some y ∧ r = (x && y)
 | 0, as, bs, r, h => ⟨true, r, by simp [eqLeaves], by simpa using h, by simp⟩
 | n + 1, [], [], r, h => ⟨true, true, by simp [eqLeaves], by simp [eqLeaves], by simpa [eqLeaves] using h.symm⟩
 | n + 1, [], _ :: _, r, h => by simp [eqLeaves] at h
 | n + 1, _ :: as, [], r, h => by cases as <;> simp [eqLeaves] at h
 | n + 1, a :: as, b :: bs, r, h => by
  obtain ⟨x, y, h1, h2, rfl⟩ := eqLeaves_cons h
  obtain ⟨x', y', h3, h4, rfl⟩ := eqLeaves_split n h2
  refine ⟨x && x', y', ?_, by simpa using h4, by simp [Bool.and_assoc]⟩
  simp only [List.take_succ_cons]
  cases hta : as.take n with
  | nil =>
   cases htb : bs.take n with
   | nil =>
    rw [hta, htb] at h3
    simp [eqLeaves] at h3
    subst h3
    simpa [eqLeaves] using h1
   | cons => rw [hta, htb] at h3; simp [eqLeaves] at h3
  | cons a' as' =>
   rw [hta] at h3
   simp only [eqLeaves]
   rw [h1, h3]
theorem fitsAll_split : ∀ (l1 l2 : List TypeId) (cs : List SV), fitsAll P (l1 ++ l2) cs = true → fitsAll P l1 (cs.take l1.length) = true ∧ fitsAll P l2 (cs.drop l1.length) = true
 | [], l2, cs, h => by simpa [fitsAll] using h
 | u :: l1, l2, [], h => by simp [fitsAll] at h
 | u :: l1, l2, c :: cs, h => by
  simp only [List.cons_append, fitsAll, Bool.and_eq_true] at h
  have := fitsAll_split l1 l2 cs h.2
  simp [fitsAll, h.1, this]
theorem repL_len {α : Type} (n : Nat) (l : List α) : (repL n l).length = n * l.length := by
 induction n with
 | zero => simp [repL]
 | succ n ih => simp [repL, ih, Nat.succ_mul]; omega
theorem fieldsEq_len {rec : TypeId → Bool} {lv : TypeId → List TypeId} (hrec : ∀ t, rec t = true → (lv t).length = P.cellsOf t) : ∀ (fs : List Field) (o n : Nat), fieldsEq P rec fs o n = true → o + (fs.flatMap fun f => lv f.type).length = n
 | [], o, n, h => by simpa [fieldsEq] using h
 | f :: fs, o, n, h => by
  simp only [fieldsEq, Bool.and_eq_true] at h
  have := fieldsEq_len hrec fs _ n h.2
  have h2 := hrec f.type h.1.2
  simp only [List.flatMap_cons, List.length_append]
  omega
theorem leaves_len : ∀ (d : Nat) (t : TypeId), plainEq P d t = true → (leaves P d t).length = P.cellsOf t
 | 0, t, h => by simp [plainEq] at h
 | d + 1, t, h => by
  unfold plainEq at h
  unfold leaves
  cases hu : P.underlying t with
  | none => simp [hu] at h
  | some k =>
   cases k <;> simp only [hu] at h <;> first
    | (simpa using (Nat.eq_of_beq_eq_true h).symm)
    | (cases h; done)
    | skip
   · rename_i n e
     simp only [Bool.and_eq_true] at h
     rw [repL_len, leaves_len d e h.1]
     exact Nat.eq_of_beq_eq_true h.2
   · rename_i fs
     simp only [Bool.and_eq_true] at h
     have := fieldsEq_len (fun t ht => leaves_len d t ht) fs.toList 0 _ h.2
     simpa using this
theorem ikEq_eq {k k' : IntKind} (h : ikEq k k' = true) : k = k' := by cases k <;> cases k' <;> first | rfl | simp [ikEq] at h
def TRel (P : Program) (ω : Nat → Value) (w : World) (Im : Nat → Prop) (θ : Th) (t : TypeId) (as : List SV) (u : Value) : Prop :=
 (isAggT P t = true ∧ ∃ xs : Array Value, u = .agg xs ∧ LRel P ω w Im θ as xs.toList) ∨ (isAggT P t = false ∧ ∃ a, as = [a] ∧ VRel P ω w Im θ a u)
theorem part_rel {w : World} {Im : Nat → Prop} {θ : Th} {t : TypeId} {k : TypeDesc} (hu : P.underlying t = some k) {as : List SV} {us : Array Value} (hl : LRel P ω w Im θ as us.toList) {off : Nat} (hlen : off + P.cellsOf t ≤ as.length)
  (h1 : isAggT P t = false → P.cellsOf t = 1) :
  ∃ u, (part t us off).run P w = .ok u w ∧ TRel P ω w Im θ t ((as.drop off).take (P.cellsOf t)) u := by
 obtain ⟨i, hi⟩ := Go.info_of_underlying hu
 by_cases hd : isAggT P t = true
 · refine ⟨.agg (us.extract off (off + P.cellsOf t)), ?_, .inl ⟨hd, _, rfl, ?_⟩⟩
   · unfold part
     simp [run_isAgg hu, hd, run_sizeOf' hi]
   · have := hl.part off (P.cellsOf t)
     have e : (us.extract off (off + P.cellsOf t)).toList = (us.toList.drop off).take (P.cellsOf t) := by
      rw [Array.toList_extract]; simp [List.extract]
     rw [e]; exact this
 · have hf : isAggT P t = false := by simpa using hd
   have hc := h1 hf
   have hlt0 : off < as.length := by omega
   have hlt : off < us.size := by have := hl.len; simp at this; omega
   refine ⟨us[off], ?_, .inr ⟨hf, as[off], ?_, hl.at_ off _ _ (by simp [hlt0]) (by simp [hlt])⟩⟩
   · unfold part
     simp [run_isAgg hu, hf, hlt]
   · rw [hc, List.drop_eq_getElem_cons hlt0]; rfl
theorem run_eqLeaf {w : World} {Im : Nat → Prop} {θ : Th} {t : TypeId} {a b : SV} {u v : Value} {r : Bool} {D : Nat} (hf : fitsLeaf P t a = true) (hg : fitsLeaf P t b = true) (h : eqLeaf a b = some r) (ha : VRel P ω w Im θ a u) (hb : VRel P ω w Im θ b v) :
  (Op.equalIn (D + 1) t u v).run P w = .ok r w := by
 unfold eqLeaf at h
 split at h
 · cases ha; cases hb
   simp only [Option.some.injEq] at h; subst h
   unfold fitsLeaf at hf
   cases hu : P.underlying t with
   | none => simp [hu] at hf
   | some k => cases k <;> simp [hu] at hf; exact run_equalIn_bool' w D t _ _ hu
 · cases ha; cases hb
   simp only [Option.some.injEq] at h; subst h
   unfold fitsLeaf at hf hg
   cases hu : P.underlying t with
   | none => simp [hu] at hf
   | some k =>
    cases k <;> simp [hu] at hf hg
    have e1 := ikEq_eq hf
    have e2 := ikEq_eq hg
    subst e1; subst e2
    exact run_equalIn_int w D t _ _ _ _ hu
 · rename_i x y
   cases ha with
   | str h1 => cases hb with
    | str h2 =>
     simp only [Option.some.injEq] at h; subst h
     unfold fitsLeaf at hf
     cases hu : P.underlying t with
     | none => simp [hu] at hf
     | some k =>
      cases k <;> simp [hu] at hf
      rw [run_equalIn_string w D t _ _ hu]
      rw [ByteArray.toList_eq, ByteArray.toList_eq, h1, h2]
 · cases h
theorem run_eqFields_rel {w : World} {Im : Nat → Prop} {θ : Th} {d D : Nat} {xs ys : Array Value} {as bs : List SV} (hA : LRel P ω w Im θ as xs.toList) (hB : LRel P ω w Im θ bs ys.toList)
  (ih : ∀ t, plainEq P d t = true → ∀ (as bs : List SV) (u v : Value) (r : Bool), fitsAll P (leaves P d t) as = true → fitsAll P (leaves P d t) bs = true → TRel P ω w Im θ t as u → TRel P ω w Im θ t bs v → eqLeaves as bs = some r → (Op.equalIn D t u v).run P w = .ok r w) :
  ∀ (fs : List Field) (o n : Nat) (r : Bool), fieldsEq P (plainEq P d) fs o n = true → n ≤ as.length → n ≤ bs.length →
   fitsAll P (fs.flatMap fun f => leaves P d f.type) ((as.drop o).take (n - o)) = true → fitsAll P (fs.flatMap fun f => leaves P d f.type) ((bs.drop o).take (n - o)) = true →
   eqLeaves ((as.drop o).take (n - o)) ((bs.drop o).take (n - o)) = some r → (Op.eqFields D xs ys fs).run P w = .ok r w
 | [], o, n, r, h, _, _, _, _, hr => by
  have : o = n := by simpa [fieldsEq] using h
  subst this
  simp [eqLeaves] at hr
  subst hr
  simp [Op.eqFields]
 | f :: fs, o, n, r, h, ha, hb, hfa, hfb, hr => by
  have hh := h
  simp only [fieldsEq, Bool.and_eq_true] at h
  obtain ⟨⟨⟨h1, h2⟩, h3⟩, h4⟩ := h
  have ho : f.offset = o := Nat.eq_of_beq_eq_true h2
  have hn := fieldsEq_len (fun t ht => leaves_len d t ht) fs _ _ h4
  have hll := leaves_len d f.type h3
  have hne : f.name ≠ "_" := by simpa using h1
  have hun : ∃ k, P.underlying f.type = some k := by
   cases d with
   | zero => simp [plainEq] at h3
   | succ d =>
    unfold plainEq at h3
    cases hu : P.underlying f.type with
    | none => simp [hu] at h3
    | some k => exact ⟨k, rfl⟩
  obtain ⟨k, hk⟩ := hun
  have hone : isAggT P f.type = false → P.cellsOf f.type = 1 := by
   intro hf
   cases d with
   | zero => simp [plainEq] at h3
   | succ d =>
    unfold plainEq at h3
    unfold isAggT at hf
    rw [hk] at h3 hf
    cases k <;> simp at h3 hf <;> first | exact h3 | skip
  obtain ⟨u, hu1, hu2⟩ := part_rel hk hA (off := o) (by omega) hone
  obtain ⟨v, hv1, hv2⟩ := part_rel hk hB (off := o) (by omega) hone
  simp only [List.flatMap_cons] at hfa hfb
  have fa := fitsAll_split _ _ _ hfa
  have fb := fitsAll_split _ _ _ hfb
  rw [hll] at fa fb
  obtain ⟨x, y, e1, e2, rfl⟩ := eqLeaves_split (P.cellsOf f.type) hr
  have hmin : min (P.cellsOf f.type) (n - o) = P.cellsOf f.type := by omega
  rw [List.take_take, hmin] at fa fb e1
  rw [List.take_take, hmin] at e1
  have hsub : n - o - P.cellsOf f.type = n - (o + P.cellsOf f.type) := by omega
  rw [List.drop_take, List.drop_drop, hsub] at fa fb e2
  rw [List.drop_take, List.drop_drop, hsub] at e2
  have r1 := ih f.type h3 _ _ u v x fa.1 fb.1 hu2 hv2 e1
  have r2 := run_eqFields_rel hA hB ih fs _ n y h4 ha hb fa.2 fb.2 e2
  simp only [Op.eqFields, hne, ne_eq, not_false_eq_true, if_true, Sem.run_bind, ho, hu1, hv1, r1, Result.andThen_ok]
  cases x
  · simp
  · simpa using r2
theorem run_eqItems_rel {w : World} {Im : Nat → Prop} {θ : Th} {D : Nat} {e : TypeId} {k : TypeDesc} (hk : P.underlying e = some k) (hone : isAggT P e = false → P.cellsOf e = 1) {lv : List TypeId} (hlv : lv.length = P.cellsOf e) {xs ys : Array Value} {as bs : List SV}
  (hA : LRel P ω w Im θ as xs.toList) (hB : LRel P ω w Im θ bs ys.toList)
  (ih : ∀ (as bs : List SV) (u v : Value) (r : Bool), fitsAll P lv as = true → fitsAll P lv bs = true → TRel P ω w Im θ e as u → TRel P ω w Im θ e bs v → eqLeaves as bs = some r → (Op.equalIn D e u v).run P w = .ok r w) :
  ∀ (m i : Nat) (r : Bool), (i + m) * P.cellsOf e ≤ as.length → (i + m) * P.cellsOf e ≤ bs.length →
   fitsAll P (repL m lv) ((as.drop (i * P.cellsOf e)).take (m * P.cellsOf e)) = true → fitsAll P (repL m lv) ((bs.drop (i * P.cellsOf e)).take (m * P.cellsOf e)) = true →
   eqLeaves ((as.drop (i * P.cellsOf e)).take (m * P.cellsOf e)) ((bs.drop (i * P.cellsOf e)).take (m * P.cellsOf e)) = some r → (Op.eqItems D e (P.cellsOf e) xs ys (List.range' i m)).run P w = .ok r w
 | 0, i, r, _, _, _, _, hr => by
  simp [eqLeaves] at hr
  subst hr
  simp [Op.eqItems]
 | m + 1, i, r, ha, hb, hfa, hfb, hr => by
  have hmul : (i + (m + 1)) * P.cellsOf e = i * P.cellsOf e + P.cellsOf e + m * P.cellsOf e := by
   rw [Nat.add_mul, Nat.succ_mul]; omega
  have hmul1 : (m + 1) * P.cellsOf e = P.cellsOf e + m * P.cellsOf e := by rw [Nat.succ_mul]; omega
  have hmul2 : (i + 1) * P.cellsOf e = i * P.cellsOf e + P.cellsOf e := by rw [Nat.succ_mul]
  obtain ⟨u, hu1, hu2⟩ := part_rel hk hA (off := i * P.cellsOf e) (by omega) hone
  obtain ⟨v, hv1, hv2⟩ := part_rel hk hB (off := i * P.cellsOf e) (by omega) hone
  simp only [repL] at hfa hfb
  have fa := fitsAll_split _ _ _ hfa
  have fb := fitsAll_split _ _ _ hfb
  rw [hlv] at fa fb
  obtain ⟨x, y, e1, e2, rfl⟩ := eqLeaves_split (P.cellsOf e) hr
  have hmin : min (P.cellsOf e) ((m + 1) * P.cellsOf e) = P.cellsOf e := by omega
  rw [List.take_take, hmin] at fa fb e1
  rw [List.take_take, hmin] at e1
  have hsub : (m + 1) * P.cellsOf e - P.cellsOf e = m * P.cellsOf e := by omega
  rw [List.drop_take, List.drop_drop, hsub, ← hmul2] at fa fb e2
  rw [List.drop_take, List.drop_drop, hsub, ← hmul2] at e2
  have r1 := ih _ _ u v x fa.1 fb.1 hu2 hv2 e1
  have r2 := run_eqItems_rel hk hone hlv hA hB ih m (i + 1) y (by have : i + 1 + m = i + (m + 1) := by omega
                                                                  rw [this]; exact ha) (by have : i + 1 + m = i + (m + 1) := by omega
                                                                                           rw [this]; exact hb) fa.2 fb.2 e2
  simp only [List.range'_succ, Op.eqItems, Sem.run_bind, hu1, hv1, r1, Result.andThen_ok]
  cases x
  · simp
  · simpa using r2
theorem fitsAll_len : ∀ {l : List TypeId} {cs : List SV}, fitsAll P l cs = true → cs.length = l.length
 | [], [], _ => rfl
 | [], _ :: _, h => by simp [fitsAll] at h
 | _ :: _, [], h => by simp [fitsAll] at h
 | _ :: l, _ :: cs, h => by
  simp only [fitsAll, Bool.and_eq_true] at h
  simp [fitsAll_len h.2]
theorem run_equalIn_plain {w : World} {Im : Nat → Prop} {θ : Th} : ∀ (d D : Nat) (t : TypeId), d ≤ D → plainEq P d t = true → ∀ (as bs : List SV) (u v : Value) (r : Bool), fitsAll P (leaves P d t) as = true → fitsAll P (leaves P d t) bs = true →
  TRel P ω w Im θ t as u → TRel P ω w Im θ t bs v → eqLeaves as bs = some r → (Op.equalIn D t u v).run P w = .ok r w
 | 0, _, t, _, h, _, _, _, _, _, _, _, _, _, _ => by simp [plainEq] at h
 | d + 1, 0, t, hd, _, _, _, _, _, _, _, _, _, _, _ => by omega
 | d + 1, D + 1, t, hd, h, as, bs, u, v, r, hfa, hfb, hA, hB, hr => by
  have hll := leaves_len (d + 1) t h
  unfold plainEq at h
  cases hu : P.underlying t with
  | none => simp [hu] at h
  | some k =>
   have leafcase : isAggT P t = false → leaves P (d + 1) t = [t] → (Op.equalIn (D + 1) t u v).run P w = .ok r w := by
    intro hag hlv
    rcases hA with ⟨hc, _⟩ | ⟨_, a, rfl, ha⟩
    · rw [hag] at hc; cases hc
    rcases hB with ⟨hc, _⟩ | ⟨_, b, rfl, hb⟩
    · rw [hag] at hc; cases hc
    rw [hlv] at hfa hfb
    simp only [fitsAll, Bool.and_true] at hfa hfb
    exact run_eqLeaf hfa hfb (by simpa [eqLeaves] using hr) ha hb
   cases k <;> simp only [hu] at h <;> first
    | (refine leafcase ?_ ?_ <;> (simp [isAggT, leaves, hu]; done))
    | (cases h; done)
    | skip
   · rename_i n e
     simp only [Bool.and_eq_true] at h
     have hne : n * P.cellsOf e = P.cellsOf t := Nat.eq_of_beq_eq_true h.2
     have hagg : isAggT P t = true := by simp [isAggT, hu]
     rcases hA with ⟨_, xs, rfl, hA⟩ | ⟨hc, _⟩
     · rcases hB with ⟨_, ys, rfl, hB⟩ | ⟨hc, _⟩
       · have hun : ∃ k, P.underlying e = some k := by
           cases d with
           | zero => simp [plainEq] at h
           | succ d =>
            have h1 := h.1
            unfold plainEq at h1
            cases hue : P.underlying e with
            | none => simp [hue] at h1
            | some k => exact ⟨k, rfl⟩
         obtain ⟨k, hk⟩ := hun
         have hone : isAggT P e = false → P.cellsOf e = 1 := by
          intro hf
          cases d with
          | zero => simp [plainEq] at h
          | succ d =>
           have h1 := h.1
           unfold plainEq at h1
           unfold isAggT at hf
           rw [hk] at h1 hf
           cases k <;> simp at h1 hf <;> first | exact h1 | skip
         obtain ⟨i, hi⟩ := Go.info_of_underlying hk
         rw [run_equalIn_array w D xs ys hu hi, List.range_eq_range']
         have hlv : leaves P (d + 1) t = repL n (leaves P d e) := by simp [leaves, hu]
         rw [hlv] at hfa hfb hll
         have la := fitsAll_len hfa
         have lb := fitsAll_len hfb
         refine run_eqItems_rel hk hone (leaves_len d e h.1) hA hB (fun as bs u v r => run_equalIn_plain d D e (by omega) h.1 as bs u v r) n 0 r (by simp; omega) (by simp; omega) ?_ ?_ ?_
         · simpa [hne, ← hll, ← la] using hfa
         · simpa [hne, ← hll, ← lb] using hfb
         · have e1 : n * P.cellsOf e = as.length := by omega
           have e2 : n * P.cellsOf e = bs.length := by omega
           simp only [Nat.zero_mul, List.drop_zero]
           rw [show as.take (n * P.cellsOf e) = as by rw [e1]; simp, show bs.take (n * P.cellsOf e) = bs by rw [e2]; simp]
           exact hr
       · rw [hagg] at hc; cases hc
     · rw [hagg] at hc; cases hc
   · rename_i fs
     simp only [Bool.and_eq_true] at h
     have hagg : isAggT P t = true := by simp [isAggT, hu]
     rcases hA with ⟨_, xs, rfl, hA⟩ | ⟨hc, _⟩
     · rcases hB with ⟨_, ys, rfl, hB⟩ | ⟨hc, _⟩
       · have hfo : P.fieldsOf t = fs := by simp [Program.fieldsOf, hu]
         rw [run_equalIn_struct w D t xs ys (by rw [hfo]; exact hu) (by simpa using h.1), hfo]
         have hlv : leaves P (d + 1) t = fs.toList.flatMap fun f => leaves P d f.type := by simp [leaves, hu]
         rw [hlv] at hfa hfb hll
         have la := fitsAll_len hfa
         have lb := fitsAll_len hfb
         refine run_eqFields_rel hA hB (fun t ht => run_equalIn_plain d D t (by omega) ht) fs.toList 0 (P.cellsOf t) r h.2 (by omega) (by omega) ?_ ?_ ?_
         · simpa [show (P.cellsOf t) = as.length by omega] using hfa
         · simpa [show (P.cellsOf t) = bs.length by omega] using hfb
         · simp only [List.drop_zero, Nat.sub_zero]
           rw [show as.take (P.cellsOf t) = as by rw [show P.cellsOf t = as.length by omega]; simp, show bs.take (P.cellsOf t) = bs by rw [show P.cellsOf t = bs.length by omega]; simp]
           exact hr
       · rw [hagg] at hc; cases hc
     · rw [hagg] at hc; cases hc
end Go.Am
/- The abstract machine: indices, lengths. -/
namespace Go.Am
variable {P : Program} {ω : Nat → Value}
theorem inB_iff {i : Int} {n : Nat} : inB i n = true ↔ 0 ≤ i ∧ i < (n : Int) := by simp [inB]
theorem known_info {e : TypeId} (h : knownT P e = true) : ∃ i, P.info? e = some i := Option.isSome_iff_exists.1 h
theorem mrun_ite_fail {h : HpF} {b : Bool} {r0 r : SV} {ups : List (Nat × Option Chunk)} {nx nx' : Nat} {rs : List Nat} (hm : mrun h (.ite b (.done r0 [] nx) .fail) = some (r, ups, nx', rs)) : b = true ∧ r = r0 ∧ ups = [] ∧ nx' = nx := by
 cases b
 · simp [mrun] at hm
 · simp only [mrun, if_true, Option.some.injEq, Prod.mk.injEq] at hm
   exact ⟨rfl, hm.1.symm, hm.2.1.symm, hm.2.2.1.symm⟩
theorem bytes_size {bs : ByteArray} {s : List UInt8} (hs : bs.data.toList = s) : bs.size = s.length := by
 subst hs
 exact (Array.length_toList (xs := bs.data)).symm
theorem bytes_get {bs : ByteArray} {s : List UInt8} (hs : bs.data.toList = s) {i : Nat} (h : i < s.length) : bs[i]? = some (s.getD i 0) := by
 have h2 : i < bs.size := by rw [bytes_size hs]; exact h
 rw [getElem?_pos bs i h2]
 subst hs
 have h3 : i < bs.data.size := h2
 show some (bs.data[i]) = _
 rw [List.getD_eq_getElem?_getD, Array.getElem?_toList, Array.getElem?_eq_getElem h3]
 rfl
theorem run_indexAddr {h : HpF} {t : TypeId} {x ix : SV} {nx nx' : Nat} {r : SV} {ups : List (Nat × Option Chunk)} {rs : List Nat} (hm : mrun h (indexAddrS P t x ix nx) = some (r, ups, nx', rs)) {w : World} {Im : Nat → Prop} {θ : Th} {u ui : Value} (hx : VRel P ω w Im θ x u) (hi : VRel P ω w Im θ ix ui) :
  ∃ v, (Instr.indexAt t u ui).run P w = .ok v w ∧ VRel P ω w Im θ r v ∧ ups = [] ∧ nx' = nx := by
 unfold indexAddrS at hm
 split at hm
 · rename_i k i n e y off hu
   cases hi
   cases hx with
   | ptr hθ =>
    cases hk : knownT P e with
    | false => rw [hk] at hm; simp [mrun] at hm
    | true =>
     rw [hk] at hm
     obtain ⟨hb, rfl, rfl, rfl⟩ := mrun_ite_fail hm
     obtain ⟨ie, hie⟩ := known_info hk
     have hb' := inB_iff.1 hb
     refine ⟨_, ?_, .ptr hθ, rfl, rfl⟩
     simp [Instr.indexAt, asIntOf, run_underlying hu, Instr.sureAddr, hb', run_sizeOf' hie, add_off]
 · rename_i k i e y sz off n hu
   cases hi
   cases hk : knownT P e with
   | false => rw [hk] at hm; simp [mrun] at hm
   | true =>
    rw [hk] at hm
    obtain ⟨hb, rfl, rfl, rfl⟩ := mrun_ite_fail hm
    obtain ⟨ie, hie⟩ := known_info hk
    have hb' := inB_iff.1 hb
    cases hx with
    | sl hθ h1 h2 =>
     refine ⟨_, ?_, .ptr hθ, rfl, rfl⟩
     simp [Instr.indexAt, asIntOf, run_underlying hu, hb', run_sizeOf' hie, add_off]
    | slnil => exfalso; have := hb'.2; omega
 · simp [mrun] at hm
theorem run_index {h : HpF} {t : TypeId} {x ix : SV} {nx nx' : Nat} {r : SV} {ups : List (Nat × Option Chunk)} {rs : List Nat} (hm : mrun h (indexS P t x ix nx) = some (r, ups, nx', rs)) {w : World} {Im : Nat → Prop} {θ : Th} {u ui : Value} (hx : VRel P ω w Im θ x u) (hi : VRel P ω w Im θ ix ui) :
  ∃ v, (Instr.index t u ui).run P w = .ok v w ∧ VRel P ω w Im θ r v ∧ ups = [] ∧ nx' = nx := by
 unfold indexS at hm
 split at hm
 · rename_i k i n e cs hu
   cases hi
   cases hx with
   | agg h1 h2 =>
    rename_i us
    cases hk : knownT P e with
    | false => rw [hk] at hm; simp [mrun] at hm
    | true =>
     rw [hk] at hm
     simp only [cond_true] at hm
     cases hp : partS P e cs (i.toNat * P.cellsOf e) with
     | none => rw [hp] at hm; simp [mrun] at hm
     | some v =>
      rw [hp] at hm
      obtain ⟨hb, rfl, rfl, rfl⟩ := mrun_ite_fail hm
      obtain ⟨ie, hie⟩ := known_info hk
      have hb' := inB_iff.1 hb
      have hl : LRel P ω w Im θ cs us.toList := ⟨by simpa using h1, fun i v u hv hu => h2 i v u hv (by simpa using hu)⟩
      obtain ⟨u, hru, hvu⟩ := run_part_rel hl hp
      refine ⟨u, ?_, hvu, rfl, rfl⟩
      simp [Instr.index, asIntOf, run_underlying hu, hb', run_sizeOf' hie, hru]
 · rename_i k i s hu
   cases hi
   cases hx with
   | str hs =>
    rename_i bs
    obtain ⟨hb, rfl, rfl, rfl⟩ := mrun_ite_fail hm
    have hb' := inB_iff.1 hb
    have e : bs[i.toNat]? = some (s.getD i.toNat 0) := bytes_get hs (by omega)
    refine ⟨_, ?_, .int, rfl, rfl⟩
    simp [Instr.index, asIntOf, run_underlying hu, hb'.1, e]
 · simp [mrun] at hm
theorem bound_rel {w : World} {Im : Nat → Prop} {θ : Th} {o : Option SV} {u : Option Value} {d l : Int} (hb : boundS o d = some l) (hn : o = none → u = none) (hs : ∀ v, o = some v → ∃ x, u = some x ∧ VRel P ω w Im θ v x) : (u = none ∧ l = d) ∨ ∃ k, u = some (.int k l) := by
 cases o with
 | none => simp only [boundS, Option.some.injEq] at hb; exact .inl ⟨hn rfl, hb.symm⟩
 | some v =>
  obtain ⟨x, rfl, hv⟩ := hs v rfl
  cases v <;> simp only [boundS] at hb <;> try (cases hb; done)
  simp only [Option.some.injEq] at hb
  subst hb
  cases hv
  exact .inr ⟨_, rfl⟩
theorem run_bounds {w : World} {n cap : Nat} {lu hu : Option Value} {l h : Int} (hl : (lu = none ∧ l = 0) ∨ ∃ k, lu = some (.int k l)) (hh : (hu = none ∧ h = (n : Int)) ∨ ∃ k, hu = some (.int k h)) (h1 : 0 ≤ l) (h2 : l ≤ h) (h3 : h ≤ (n : Int)) (h4 : n ≤ cap) :
  (Instr.sliceBounds true n cap lu hu none).run P w = .ok (l.toNat, h.toNat, cap) w := by
 have a1 : 0 ≤ h := by omega
 have a2 : h ≤ (cap : Int) := by omega
 have a3 : l ≤ (h.toNat : Int) := by omega
 rcases hl with ⟨rfl, rfl⟩ | ⟨k, rfl⟩ <;> rcases hh with ⟨rfl, rfl⟩ | ⟨k', rfl⟩ <;> simp [Instr.sliceBounds, Instr.sliceBound, asIntOf, *]
 all_goals (intro hx; exfalso; omega)
theorem run_slice {h : HpF} {t : TypeId} {x : SV} {lo hi mx : Option SV} {nx nx' : Nat} {r : SV} {ups : List (Nat × Option Chunk)} {rs : List Nat} (hm : mrun h (sliceS P t x lo hi mx nx) = some (r, ups, nx', rs)) {w : World} {Im : Nat → Prop} {θ : Th} {u : Value} {ul uh um : Option Value} (hx : VRel P ω w Im θ x u)
  (l1 : lo = none → ul = none) (l2 : ∀ v, lo = some v → ∃ x, ul = some x ∧ VRel P ω w Im θ v x) (i1 : hi = none → uh = none) (i2 : ∀ v, hi = some v → ∃ x, uh = some x ∧ VRel P ω w Im θ v x) (m1 : mx = none → um = none) :
  ∃ v, (Instr.sliceAt t u ul uh um).run P w = .ok v w ∧ VRel P ω w Im θ r v ∧ ups = [] ∧ nx' = nx := by
 unfold sliceS at hm
 split at hm
 case h_2 => simp [mrun] at hm
 rename_i e y sz off n hu
 obtain rfl := m1 rfl
 split at hm
 case h_2 => simp [mrun] at hm
 rename_i l hh hl' hh'
 cases hk : knownT P e && Nat.beq sz (P.cellsOf e) with
 | false => rw [hk] at hm; simp [mrun] at hm
 | true =>
  rw [hk] at hm
  simp only [cond_true] at hm
  simp only [Bool.and_eq_true] at hk
  obtain ⟨ie, hie⟩ := known_info hk.1
  have hsz : sz = P.cellsOf e := Nat.eq_of_beq_eq_true hk.2
  have bl := bound_rel hl' l1 l2
  have bh := bound_rel hh' i1 i2
  unfold slicedS at hm
  simp only [mrun] at hm
  split at hm
  case isFalse => cases hm
  rename_i hc
  simp only [Bool.and_eq_true, decide_eq_true_eq] at hc
  obtain ⟨⟨c1, c2⟩, c3⟩ := hc
  cases hx with
  | sl hθ h1 h2 =>
   rename_i b N cap
   have hb := run_bounds (P := P) (w := w) bl bh c1 c2 c3 h2
   split at hm
   · rename_i hc2
     simp only [Option.some.injEq, Prod.mk.injEq] at hm
     obtain ⟨rfl, rfl, rfl, _⟩ := hm
     simp only [Bool.or_eq_true, decide_eq_true_eq] at hc2
     refine ⟨.slice (some ⟨b, off + l.toNat * sz, none⟩) (hh.toNat - l.toNat) (cap - l.toNat), ?_, ?_, rfl, rfl⟩
     · by_cases hcl : cap = l.toNat
       · have h0 : l = 0 := by omega
         subst h0
         have hc0 : cap = 0 := by simpa using hcl
         subst hc0
         simp [Instr.sliceAt, Instr.slice, run_underlying hu, hb, run_sizeOf' hie]
       · simp [Instr.sliceAt, Instr.slice, run_underlying hu, hb, run_sizeOf' hie, hcl, add_off, hsz]
     · refine .sl hθ ?_ (by omega)
       have : (l.toNat + (cap - l.toNat)) * sz = cap * sz := by congr 1; omega
       rw [Nat.add_assoc, ← Nat.add_mul, this]; exact h1
   · rename_i hc2
     simp only [Option.some.injEq, Prod.mk.injEq] at hm
     obtain ⟨rfl, rfl, rfl, _⟩ := hm
     simp only [Bool.or_eq_true, decide_eq_true_eq, not_or] at hc2
     refine ⟨.slice (if cap = l.toNat then some ⟨b, off, none⟩ else some ⟨b, off + l.toNat * sz, none⟩) 0 (cap - l.toNat), ?_, .psl (fun _ => undef) rfl ⟨Nat.zero_le _, by intro h; split at h <;> cases h⟩ (fun v hv => by cases hv) (fun i v hv => by simp at hv) (fun hn => absurd rfl hn), rfl, rfl⟩
     have e0 : hh.toNat - l.toNat = 0 := by omega
     by_cases hcl : cap = l.toNat
     · subst hcl
       simp [Instr.sliceAt, Instr.slice, run_underlying hu, hb, run_sizeOf' hie, e0]
     · simp [Instr.sliceAt, Instr.slice, run_underlying hu, hb, run_sizeOf' hie, hcl, add_off, hsz, e0]
  | slnil =>
   have hb := run_bounds (P := P) (w := w) (cap := 0) bl bh c1 c2 c3 (Nat.le_refl _)
   have hl0 : l = 0 := by omega
   have hh0 : hh = 0 := by omega
   subst hl0
   subst hh0
   simp only [Int.ofNat_zero, decide_true, Bool.or_true, if_true, Option.some.injEq, Prod.mk.injEq] at hm
   obtain ⟨rfl, rfl, rfl, _⟩ := hm
   refine ⟨.slice none 0 0, ?_, ?_, rfl, rfl⟩
   · simp [Instr.sliceAt, Instr.slice, run_underlying hu, hb, run_sizeOf' hie]
   · simpa using VRel'.slnil
theorem run_boundsA {w : World} {n : Nat} {lu hu : Option Value} {l h : Int} (hl : (lu = none ∧ l = 0) ∨ ∃ k, lu = some (.int k l)) (hh : (hu = none ∧ h = (n : Int)) ∨ ∃ k, hu = some (.int k h)) (h1 : 0 ≤ l) (h2 : l ≤ h) (h3 : h ≤ (n : Int)) :
  (Instr.sliceBounds false n n lu hu none).run P w = .ok (l.toNat, h.toNat, n) w := by
 have a1 : 0 ≤ h := by omega
 have a3 : l ≤ (h.toNat : Int) := by omega
 rcases hl with ⟨rfl, rfl⟩ | ⟨k, rfl⟩ <;> rcases hh with ⟨rfl, rfl⟩ | ⟨k', rfl⟩ <;> simp [Instr.sliceBounds, Instr.sliceBound, asIntOf, *]
 all_goals (intro hx; exfalso; omega)
theorem run_len {h : HpF} {t : TypeId} {x : SV} {nx nx' : Nat} {r : SV} {ups : List (Nat × Option Chunk)} {rs : List Nat} (hm : mrun h (lenS P t x nx) = some (r, ups, nx', rs)) {w : World} {Im : Nat → Prop} {θ : Th} {tys : Array TypeId} {ty : TypeId} {us : Array Value} {u : Value} (h1 : tys[0]? = some t) (h2 : us[0]? = some u) (hx : VRel P ω w Im θ x u) :
  ∃ v, (Builtin.len_ tys ty us).run P w = .ok v w ∧ VRel P ω w Im θ r v ∧ ups = [] ∧ nx' = nx := by
 unfold lenS at hm
 split at hm <;> (try (simp [mrun] at hm; done)) <;> rename_i hu <;> simp only [mrun, Option.some.injEq, Prod.mk.injEq] at hm <;> obtain ⟨rfl, rfl, rfl, _⟩ := hm
 · cases hx with
   | str hs =>
    rename_i bs
    refine ⟨_, ?_, .int, rfl, rfl⟩
    simp [Builtin.len_, h1, h2, run_underlying hu, goInt, bytes_size hs]
 · exact ⟨_, by simp [Builtin.len_, h1, h2, run_underlying hu, goInt], .int, rfl, rfl⟩
 · cases hx <;> exact ⟨_, by simp [Builtin.len_, h1, h2, run_underlying hu, goInt], .int, rfl, rfl⟩
 · cases hx; exact ⟨_, by simp [Builtin.len_, h1, h2, run_underlying hu, goInt], .int, rfl, rfl⟩
 · cases hx with
   | psl us' e1 e0 e2 e3 e4 => exact ⟨_, by simp [Builtin.len_, h1, h2, run_underlying hu, goInt, e1], .int, rfl, rfl⟩
end Go.Am
/- The abstract machine: one operation, whichever. -/
namespace Go.Am
variable {P : Program} {ω : Nat → Value}
theorem run_eqGuard_skip {op : BinOp} {t : TypeId} {x y : Operand} {a b : Value} {w : World} (h1 : ¬ (a = .nilIface ∧ b = .nilIface)) (h2 : ∀ xs ys, ¬ (a = .agg xs ∧ b = .agg ys)) :
  (eqGuard op t x y a b).run P w = .ok () w := by
 cases op <;> first
  | rfl
  | (simp only [eqGuard, Bool.not_true, Bool.false_eq_true, if_false]
     split
     · exact absurd ⟨rfl, rfl⟩ h1
     · exact absurd ⟨rfl, rfl⟩ (h2 _ _)
     · rfl)
theorem isEq_some {op : BinOp} {b : Bool} (h : isEq op = some b) : (b = true ∧ op = .eql) ∨ (b = false ∧ op = .neq) := by
 cases op <;> simp [isEq] at h <;> simp [h]
theorem mrun_done {h : HpF} {r r' : SV} {ups ups' : List (Nat × Option Chunk)} {nx nx' : Nat} {rs : List Nat} (hm : mrun h (.done r' ups' nx') = some (r, ups, nx, rs)) : r' = r ∧ ups' = ups ∧ nx' = nx ∧ rs = [] := by
 simpa [mrun, eq_comm] using hm
theorem intBin_run {op : BinOp} {k : IntKind} {a b : Int} {h : HpF} {nx nx' : Nat} {r : SV} {ups : List (Nat × Option Chunk)} {rs : List Nat} {t : TypeId} {w : World} {Im : Nat → Prop} {θ : Th} (hop : op ≠ .shl ∧ op ≠ .shr)
  (hm : mrun h (intBin op k a b .fail nx) = some (r, ups, nx', rs)) : ∃ v, (binOp op t (.int k a) (.int k b)).run P w = .ok v w ∧ VRel P ω w Im θ r v ∧ ups = [] ∧ nx' = nx := by
 cases op <;> simp only [intBin] at hm <;> first
  | (obtain ⟨rfl, rfl, rfl, _⟩ := mrun_done (h := h) hm; refine ⟨_, ?_, .int, rfl, rfl⟩; simp [binOp, Op.intArith, Op.intBits]; done)
  | (obtain ⟨rfl, rfl, rfl, _⟩ := mrun_done (h := h) hm; refine ⟨_, ?_, .bool, rfl, rfl⟩; simp [binOp, Op.intCmp]; done)
  | (simp only [mrun] at hm
     split at hm
     · simp at hm
     · rename_i hb
       obtain ⟨rfl, rfl, rfl, _⟩ := mrun_done (h := h) hm
       have hb' : ¬ b = 0 := by simpa using hb
       refine ⟨_, ?_, .int, rfl, rfl⟩
       simp [binOp, Op.intDiv, hb'])
  | (simp [mrun] at hm; done)
  | (exact absurd rfl hop.1)
  | (exact absurd rfl hop.2)
theorem shift_run {op : BinOp} {k k' : IntKind} {a b : Int} {h : HpF} {nx nx' : Nat} {r : SV} {ups : List (Nat × Option Chunk)} {rs : List Nat} {t : TypeId} {w : World} {Im : Nat → Prop} {θ : Th}
  (hm : mrun h (shiftS op k a b nx) = some (r, ups, nx', rs)) : ∃ v, (binOp op t (.int k a) (.int k' b)).run P w = .ok v w ∧ VRel P ω w Im θ r v ∧ ups = [] ∧ nx' = nx := by
 unfold shiftS at hm
 cases op <;> simp only [] at hm <;> first
  | (simp [mrun] at hm; done)
  | (simp only [mrun] at hm
     split at hm
     · simp at hm
     · rename_i hb
       obtain ⟨rfl, rfl, rfl, _⟩ := mrun_done (h := h) hm
       have hb' : ¬ b < 0 := by simpa using hb
       refine ⟨_, ?_, .int, rfl, rfl⟩
       simp [binOp, Op.shift, hb'])
theorem ba_append (s t : ByteArray) : (s ++ t).data.toList = s.data.toList ++ t.data.toList := by simp [ByteArray.data_append]
theorem str_run {op : BinOp} {a b : List UInt8} {s s' : ByteArray} (hs : s.data.toList = a) (hs' : s'.data.toList = b) {h : HpF} {nx nx' : Nat} {r : SV} {ups : List (Nat × Option Chunk)} {rs : List Nat} {t : TypeId} {w : World} {Im : Nat → Prop} {θ : Th}
  (hm : mrun h (strBin op a b nx) = some (r, ups, nx', rs)) : ∃ v, (binOp op t (.string s) (.string s')).run P w = .ok v w ∧ VRel P ω w Im θ r v ∧ ups = [] ∧ nx' = nx := by
 have e1 : s.toList = a := by rw [ByteArray.toList_eq, hs]
 have e2 : s'.toList = b := by rw [ByteArray.toList_eq, hs']
 unfold strBin at hm
 cases op <;> simp only [] at hm <;> first
  | (simp [mrun] at hm; done)
  | (obtain ⟨rfl, rfl, rfl, _⟩ := mrun_done (h := h) hm
     refine ⟨_, ?_, .bool, rfl, rfl⟩
     simp [binOp, Op.stringOp, e1, e2])
  | (simp only [mrun] at hm
     split at hm
     · rename_i hb
       obtain ⟨rfl, rfl, rfl, _⟩ := mrun_done (h := h) hm
       have hl : s.size = a.length := by rw [← hs]; simp
       have hl' : s'.size = b.length := by rw [← hs']; simp
       have hb' : ¬ (((s.size + s'.size : Nat) : Int) > IntKind.i64.max) := by
        have : IntKind.i64.max = 9223372036854775807 := by decide
        rw [this, hl, hl']
        have := of_decide_eq_true hb
        omega
       refine ⟨.string (s ++ s'), ?_, .str (by rw [ba_append, hs, hs']), rfl, rfl⟩
       simp only [binOp, Op.stringOp]
       rw [if_neg hb']
       rfl
     · simp at hm)
theorem good_of {o : Oper} {a : Act} {w : World} {Im : Nat → Prop} {θ : Th} {h : HpF} {r : SV} {ups : List (Nat × Option Chunk)} {nx nx' : Nat} (hr : HRel P ω w Im θ h) (s : Sem Value) (hs : (execOp a.eval o).run P w = ((do pure (Next.value (← s)) : Sem Next)).run P w)
  (hx : ∃ v, s.run P w = .ok v w ∧ VRel P ω w Im θ r v ∧ ups = [] ∧ nx' = nx) : Good P ω o a w Im θ h r ups nx nx' := by
 obtain ⟨v, h1, h2, rfl, rfl⟩ := hx
 refine good_value hr ?_ h2
 rw [hs]
 simp [h1]
theorem equal_succ (t : TypeId) (x y : Value) : Op.equal t x y = Op.equalIn (9999 + 1) t x y := rfl
theorem psl_some {w : World} {Im : Nat → Prop} {θ : Th} {e : TypeId} {v : SV} {es : List SV} {u : Value} (h : VRel P ω w Im θ (.psl e (v :: es)) u) : ∃ a n cap, u = .slice (some a) n cap := by
 cases h with
 | psl us h1 h0 h2 h3 h4 =>
  obtain ⟨a, off, rfl, _⟩ := h4 (by rw [← h1]; simp)
  exact ⟨_, _, _, rfl⟩
theorem nilEq_run {w : World} {Im : Nat → Prop} {θ : Th} {t : TypeId} {x y : SV} {u v : Value} {b : Bool} (h : nilEq P t x y = some b) (hx : VRel P ω w Im θ x u) (hy : VRel P ω w Im θ y v) :
  (Op.equal t u v).run P w = .ok b w ∧ ¬ (u = .nilIface ∧ v = .nilIface) ∧ (∀ xs ys, ¬ (u = .agg xs ∧ v = .agg ys)) ∧
   (binOp .eql t u v = (do pure (.bool (← Op.equal t u v)))) ∧ (binOp .neq t u v = (do pure (.bool (!(← Op.equal t u v))))) := by
 unfold nilEq at h
 split at h <;> first | (cases h; done) | skip
 all_goals
  (rename_i hu)
  (simp only [Option.some.injEq] at h)
  (subst h)
  (try (obtain ⟨_, _, _, rfl⟩ := psl_some hx; clear hx))
  (try (obtain ⟨_, _, _, rfl⟩ := psl_some hy; clear hy))
  (try cases hx)
  (try cases hy)
  (refine ⟨?_, by simp, by simp, rfl, rfl⟩)
  (rw [equal_succ]; generalize (9999 : Nat) = d; simp only [Op.equalIn, Sem.run_bind, run_underlying hu, Result.andThen_ok, Sem.run_pure, Option.isNone])
theorem zipIdx_fill : ∀ (vs : List Value) (off i : Nat) (cur : Array Value), off + i + vs.length ≤ cur.size →
  ((vs.zipIdx i).foldl (fun cs (c, j) => cs.setIfInBounds (off + j) c) cur).toList = cur.toList.take (off + i) ++ vs ++ cur.toList.drop (off + i + vs.length)
 | [], off, i, cur, _ => by simp
 | v :: vs, off, i, cur, h => by
  simp only [List.zipIdx_cons, List.foldl_cons]
  rw [zipIdx_fill vs off (i + 1) (cur.setIfInBounds (off + i) v) (by simp at h ⊢; omega)]
  have e := list_seg_step cur.toList (off + i) v vs (by simp at h ⊢; omega)
  simpa [Array.toList_setIfInBounds, Nat.add_assoc] using e
theorem fill_rel {w : World} {Im : Nat → Prop} {θ : Th} {place : Nat → Option (Nat × Nat)} : ∀ (ps : List (Nat × SV)) (qs : List (Nat × Value)) (cs cs' : List SV) (us : Array Value),
  ps.length = qs.length → (∀ (i : Nat) p q, ps[i]? = some p → qs[i]? = some q → p.1 = q.1 ∧ VRel P ω w Im θ p.2 q.2) → LRel P ω w Im θ cs us.toList → fillS place cs ps = some cs' →
  ∃ us', Instr.fill place us qs = some us' ∧ LRel P ω w Im θ cs' us'.toList
 | [], [], cs, cs', us, _, _, hl, h => by
  simp [fillS] at h; subst h
  exact ⟨us, rfl, hl⟩
 | [], _ :: _, _, _, _, h, _, _, _ => by simp at h
 | _ :: _, [], _, _, _, h, _, _, _ => by simp at h
 | (i, v) :: ps, (j, u) :: qs, cs, cs', us, hlen, hat, hl, h => by
  have h0 := hat 0 (i, v) (j, u) rfl rfl
  obtain ⟨rfl, hv⟩ := h0
  simp only [fillS] at h
  cases hp : place i with
  | none => simp [hp] at h
  | some pr =>
   obtain ⟨off, size⟩ := pr
   cases hc : cellsS v with
   | none => simp [hp, hc] at h
   | some vs =>
    simp only [hp, hc] at h
    cases hb : Nat.beq vs.length size with
    | false => simp [hb] at h
    | true =>
     simp only [hb, cond_true] at h
     cases hs : splice cs off vs with
     | none => simp [hs] at h
     | some cs1 =>
      simp only [hs] at h
      obtain ⟨hle, rfl⟩ := splice_spec _ _ _ _ hs
      have hvr := cells_rel hv hc
      have hsz : vs.length = size := Nat.eq_of_beq_eq_true hb
      have hul : u.cells.size = vs.length := by have := hvr.len; simp at this; omega
      have hll := hl.len
      simp at hll
      have hfill := zipIdx_fill u.cells.toList off 0 us (by simp; omega)
      obtain ⟨us', h1, h2⟩ := fill_rel ps qs _ cs' (u.cells.zipIdx.foldl (fun cs (c, j) => cs.setIfInBounds (off + j) c) us) (by simpa using hlen)
       (fun k p q hp hq => hat (k + 1) p q (by simpa using hp) (by simpa using hq)) (by
        have e : (u.cells.zipIdx.foldl (fun cs (c, j) => cs.setIfInBounds (off + j) c) us).toList = us.toList.take off ++ u.cells.toList ++ us.toList.drop (off + vs.length) := by
         rw [← Array.foldl_toList, Array.toList_zipIdx]
         rw [hfill]; simp [hul]
        rw [e]
        exact ((hl.takeL off).append hvr).append (hl.dropL _)) h
      refine ⟨us', ?_, h2⟩
      simp only [Instr.fill, hp]
      rw [if_neg (by simp; omega)]
      exact h1
theorem run_places {fs : List Field} (h : ∀ f ∈ fs, knownT P f.type = true) (w : World) : (fs.mapM (fun f => Prod.mk f.offset <$> sizeOf f.type : Field → Sem (Nat × Nat))).run P w = .ok (fs.map fun f => (f.offset, P.cellsOf f.type)) w := by
 induction fs with
 | nil => rfl
 | cons f fs ih =>
  have hf := h f (by simp)
  unfold knownT at hf
  cases hi : P.info? f.type with
  | none => simp [hi] at hf
  | some i => simp [run_sizeOf' hi, ih (fun g hg => h g (by simp [hg]))]
theorem build_run {w : World} {Im : Nat → Prop} {θ : Th} {h : HpF} {t : TypeId} {ps : List (Nat × SV)} {qs : Array (Nat × Value)} {nx nx' : Nat} {r : SV} {ups : List (Nat × Option Chunk)} {rs : List Nat}
  (hlen : ps.length = qs.size) (hat : ∀ (i : Nat) p q, ps[i]? = some p → qs[i]? = some q → p.1 = q.1 ∧ VRel P ω w Im θ p.2 q.2) (hm : mrun h (buildS P t ps nx) = some (r, ups, nx', rs)) :
  ∃ v, (Instr.build t qs).run P w = .ok v w ∧ VRel P ω w Im θ r v ∧ ups = [] ∧ nx' = nx := by
 unfold buildS at hm
 cases hbo : buildOk P t with
 | false => simp [hbo, mrun] at hm
 | true =>
  simp only [hbo, cond_true] at hm
  split at hm
  · rename_i zs hz
    split at hm
    · rename_i cs hcs
      obtain ⟨rfl, rfl, rfl, _⟩ := mrun_done hm
      unfold zeroS at hz
      cases hi : P.info? t with
      | none => simp [hi] at hz
      | some i =>
       cases hzi : i.zero with
       | none => simp [hi, hzi] at hz
       | some zv =>
        simp only [hi, hzi, Option.some.injEq] at hz
        have hzr := ofValue_rel (P := P) (ω := ω) w Im θ zv
        rw [hz] at hzr
        generalize hzv : zv = zv' at hzr
        cases hzr with
        | agg h1 h2 =>
         rename_i zus
         have hl : LRel P ω w Im θ zs zus.toList := ⟨by simpa using h1, fun i v u hv hu => h2 i v u hv (by simpa using hu)⟩
         have hat' : ∀ (i : Nat) p q, ps[i]? = some p → qs.toList[i]? = some q → p.1 = q.1 ∧ VRel P ω w Im θ p.2 q.2 := fun i p q hp hq => hat i p q hp (by simpa using hq)
         obtain ⟨us', hf, hl'⟩ := fill_rel ps qs.toList zs cs zus (by simpa using hlen) hat' hl hcs
         refine ⟨.agg us', ?_, .agg (by simpa using hl'.len) (fun i v u hv hu => hl'.at_ i v u hv (by simpa using hu)), rfl, rfl⟩
         unfold buildOk at hbo
         unfold Instr.build
         cases hu : P.underlying t with
         | none => simp [hu] at hbo
         | some d =>
          simp only [hu] at hbo
          cases d <;> simp only [] at hbo <;> try (cases hbo; done)
          · rename_i n e
            have hpl : (placeOf P t) = fun i => some (i * P.cellsOf e, P.cellsOf e) := by funext i; simp [placeOf, hu]
            rw [hpl] at hf
            unfold knownT at hbo
            cases hie : P.info? e with
            | none => simp [hie] at hbo
            | some ie => simp [zeroValue, typeInfo, hi, hzi, hzv, run_underlying hu, run_sizeOf' hie, Value.cells, hf]
          · rename_i fs
            have hpl : (placeOf P t) = fun i => (fs.map fun f => (f.offset, P.cellsOf f.type))[i]? := by
             funext i; simp only [placeOf, hu, Array.getElem?_map]; cases fs[i]? <;> rfl
            rw [hpl] at hf
            simp only [Array.getElem?_map] at hf
            have hp := run_places (P := P) (fs := fs.toList) (fun f hf => List.all_eq_true.1 hbo f hf) w
            simp [zeroValue, typeInfo, hi, hzi, hzv, run_underlying hu, Value.cells, Array.mapM_eq_mapM_toList, hp, hf]
    · simp [mrun] at hm
  · simp [mrun] at hm
theorem fillS_len {place : Nat → Option (Nat × Nat)} : ∀ (ps : List (Nat × SV)) (cs cs' : List SV), fillS place cs ps = some cs' → cs'.length = cs.length
 | [], cs, cs', h => by simp [fillS] at h; rw [h]
 | (i, v) :: ps, cs, cs', h => by
  simp only [fillS] at h
  cases hp : place i with
  | none => simp [hp] at h
  | some pr =>
   obtain ⟨off, size⟩ := pr
   cases hc : cellsS v with
   | none => simp [hp, hc] at h
   | some vs =>
    simp only [hp, hc] at h
    cases hb : Nat.beq vs.length size with
    | false => simp [hb] at h
    | true =>
     simp only [hb, cond_true] at h
     cases hs : splice cs off vs with
     | none => simp [hs] at h
     | some cs1 =>
      simp only [hs] at h
      obtain ⟨hle, rfl⟩ := splice_spec _ _ _ _ hs
      rw [fillS_len ps _ _ h]
      simp
      omega
theorem repL_get {α : Type} (zs : List α) : ∀ (n i : Nat), i < n * zs.length → (repL n zs)[i]? = zs[i % zs.length]?
 | 0, i, h => by simp at h
 | n + 1, i, h => by
  simp only [repL]
  rcases Nat.lt_or_ge i zs.length with h1 | h1
  · rw [List.getElem?_append_left h1, Nat.mod_eq_of_lt h1]
  · rw [List.getElem?_append_right h1, repL_get zs n (i - zs.length) (by rw [Nat.succ_mul] at h; omega)]
    rw [← Nat.mod_eq_sub_mod h1]
theorem rep_rel {w : World} {Im : Nat → Prop} {θ : Th} {zs : List SV} {zc : Array Value} (hl : LRel P ω w Im θ zs zc.toList) (h0 : zs.length ≠ 0) (n : Nat) : LRel P ω w Im θ (repL n zs) ((Array.range (n * zs.length)).map (zc[· % zc.size]!)).toList := by
 have hsz : zc.size = zs.length := by have := hl.len; simp at this; omega
 refine ⟨by simp [repL_len], fun i v u hv hu => ?_⟩
 have hi : i < n * zs.length := by
  have := (List.getElem?_eq_some_iff.1 hv).1
  rwa [repL_len] at this
 rw [repL_get zs n i hi] at hv
 refine hl.at_ _ v u hv ?_
 simp only [Array.getElem?_toList, Array.getElem?_map] at hu
 have hm : i % zs.length < zs.length := Nat.mod_lt _ (by omega)
 have e : (Array.range (n * zs.length))[i]? = some i := by simp [hi]
 rw [e, hsz] at hu
 simp only [Option.map_some, Option.some.injEq] at hu
 have hm' : i % zs.length < zc.size := by omega
 rw [getElem!_pos zc _ hm'] at hu
 simp [hm', hu]
theorem build_slice_run {w : World} {Im : Nat → Prop} {θ : Th} {h : HpF} {t : TypeId} {n : Nat} {ps : List (Nat × SV)} {qs : Array (Nat × Value)} {nx nx' : Nat} {r : SV} {ups : List (Nat × Option Chunk)} {rs : List Nat}
  (hlen : ps.length = qs.size) (hat : ∀ (i : Nat) p q, ps[i]? = some p → qs[i]? = some q → p.1 = q.1 ∧ VRel P ω w Im θ p.2 q.2) (hm : mrun h (buildSliceS P t n ps nx) = some (r, ups, nx', rs)) :
  ∃ (us : Array Value) (cs : List SV) (e : TypeId), (Instr.buildSlice t n qs).run P w = .ok (.slice (some ⟨w.heap.size, 0, none⟩) n n) (w.alloc (.cells us e)) ∧ LRel P ω w Im θ cs us.toList ∧ cs.length = n * P.cellsOf e ∧ r = .sl nx (P.cellsOf e) 0 n ∧ ups = [(nx, some (.cells e cs))] ∧ nx' = nx + 1 := by
 unfold buildSliceS at hm
 split at hm
 · rename_i e hu
   cases hk : knownT P e && Nat.ble (n * P.cellsOf e) 16777216 && !(Nat.beq (P.cellsOf e) 0) with
   | false => rw [hk] at hm; simp [mrun] at hm
   | true =>
    rw [hk] at hm
    simp only [cond_true] at hm
    simp only [Bool.and_eq_true, Bool.not_eq_true'] at hk
    obtain ⟨⟨k1, k2⟩, k3⟩ := hk
    have hle : n * P.cellsOf e ≤ 16777216 := by rwa [Nat.ble_eq] at k2
    have hne : P.cellsOf e ≠ 0 := fun hh => by rw [nb_t hh] at k3; cases k3
    split at hm
    · rename_i z hz
      split at hm
      · rename_i zs hzs
        cases hb : Nat.beq zs.length (P.cellsOf e) with
        | false => rw [hb] at hm; simp [mrun] at hm
        | true =>
         rw [hb] at hm
         simp only [cond_true] at hm
         have hzl : zs.length = P.cellsOf e := Nat.eq_of_beq_eq_true hb
         split at hm
         · rename_i cs hcs
           obtain ⟨rfl, rfl, rfl, _⟩ := mrun_done hm
           unfold zeroS at hz
           cases hi : P.info? e with
           | none => simp [hi] at hz
           | some i =>
            cases hzi : i.zero with
            | none => simp [hi, hzi] at hz
            | some zv =>
             simp only [hi, hzi, Option.some.injEq] at hz
             subst hz
             have hl := cells_rel (ofValue_rel (P := P) (ω := ω) w Im θ zv) hzs
             have hrep := rep_rel hl (by omega) n
             obtain ⟨us', hf, hl'⟩ := fill_rel ps qs.toList _ cs _ (by simpa using hlen) (fun i p q hp hq => hat i p q hp (by simpa using hq)) hrep hcs
             refine ⟨us', cs, e, ?_, hl', ?_, rfl, rfl, rfl⟩
             · rw [hzl] at hf
               unfold Instr.buildSlice
               have hn : ¬ (n * P.cellsOf e > 2 ^ 24) := by omega
               by_cases h0 : n * P.cellsOf e = 0
               · have : n = 0 := by
                   rcases Nat.mul_eq_zero.1 h0 with h | h
                   · exact h
                   · exact absurd h hne
                 subst this
                 simp only [Nat.zero_mul] at hf
                 have e0 : ∀ f : Nat → Value, (Array.range 0).map f = #[] := fun f => by simp
                 rw [e0] at hf
                 simp only [Sem.run_bind, run_underlying hu, Result.andThen_ok, run_sizeOf' hi, Nat.zero_mul, newRow]
                 simp [e0, hf]
               · simp [run_underlying hu, run_sizeOf' hi, hn, h0, zeroValue, typeInfo, hi, hzi, newRow, hf]
             · rw [fillS_len _ _ _ hcs, repL_len, hzl]
         · simp [mrun] at hm
      · simp [mrun] at hm
    · simp [mrun] at hm
 · simp [mrun] at hm
theorem make_slice_run {w : World} {Im : Nat → Prop} {θ : Th} {h : HpF} {t : TypeId} {l c : SV} {ul uc : Value} {nx nx' : Nat} {r : SV} {ups : List (Nat × Option Chunk)} {rs : List Nat}
  (hm : mrun h (makeSliceS P t l c nx) = some (r, ups, nx', rs)) (hl : VRel P ω w Im θ l ul) (hc : VRel P ω w Im θ c uc) :
  ∃ (us : Array Value) (cs : List SV) (e : TypeId) (n k : Nat), (Instr.makeSlice t ul uc).run P w = .ok (.slice (some ⟨w.heap.size, 0, none⟩) n k) (w.alloc (.cells us e)) ∧ LRel P ω w Im θ cs us.toList ∧ cs.length = k * P.cellsOf e ∧ n ≤ k ∧ r = .sl nx (P.cellsOf e) 0 n ∧ ups = [(nx, some (.cells e cs))] ∧ nx' = nx + 1 := by
 unfold makeSliceS at hm
 split at hm
 · rename_i e kl a kc b hu
   cases hl
   cases hc
   cases hst : isStrT P e with
   | true => rw [hst] at hm; simp [mrun] at hm
   | false =>
   rw [hst] at hm
   simp only [cond_false] at hm
   split at hm
   · rename_i i hi
     split at hm
     · rename_i z hz
       split at hm
       · rename_i zs hzs
         cases hb : Nat.beq zs.length (P.cellsOf e) && !(Nat.beq (P.cellsOf e) 0) with
         | false => rw [hb] at hm; simp [mrun] at hm
         | true =>
          rw [hb] at hm
          simp only [cond_true] at hm
          simp only [Bool.and_eq_true, Bool.not_eq_true'] at hb
          have hzl : zs.length = P.cellsOf e := Nat.eq_of_beq_eq_true hb.1
          have hne : P.cellsOf e ≠ 0 := fun hh => by rw [nb_t hh] at hb; cases hb.2
          cases hd : decide (0 ≤ a) && decide (a ≤ b) && decide (b ≤ 16777216) && decide (b * (P.cellsOf e : Int) ≤ 16777216) && decide ((i.bytes : Int) * b ≤ 281474976710656) with
          | false => rw [hd] at hm; simp [mrun] at hm
          | true =>
           rw [hd] at hm
           simp only [mrun, if_true, Option.some.injEq, Prod.mk.injEq] at hm
           obtain ⟨rfl, rfl, rfl, _⟩ := hm
           simp only [Bool.and_eq_true, decide_eq_true_eq] at hd
           obtain ⟨⟨⟨⟨d1, d2⟩, d3⟩, d4⟩, d5⟩ := hd
           unfold zeroS at hz
           simp only [hi] at hz
           cases hzi : i.zero with
           | none => simp [hzi] at hz
           | some zv =>
            simp only [hzi, Option.some.injEq] at hz
            subst hz
            have hlz := cells_rel (ofValue_rel (P := P) (ω := ω) w Im θ zv) hzs
            have hrep := rep_rel hlz (by omega) b.toNat
            have hsize : i.size = P.cellsOf e := by unfold Program.cellsOf; rw [hi]; rfl
            have hcells : b.toNat * i.size ≤ 16777216 := by
             rw [hsize]
             have : ((b.toNat * P.cellsOf e : Nat) : Int) ≤ 16777216 := by
              push_cast
              rw [Int.toNat_of_nonneg (by omega)]
              exact d4
             omega
            have hrun := run_makeSlice (w := w) t e i zv hu hi hzi kl kc a b d1 d2 hcells d5 (by omega)
            refine ⟨_, _, e, a.toNat, b.toNat, hrun, ?_, ?_, by omega, rfl, rfl, rfl⟩
            · rw [hsize, ← hzl]; exact hrep
            · rw [repL_len, hzl]
       · simp [mrun] at hm
     · simp [mrun] at hm
   · simp [mrun] at hm
 · simp [mrun] at hm
theorem binS_run {op : BinOp} {t : TypeId} {x y : SV} {u v : Value} {h : HpF} {nx nx' : Nat} {r : SV} {ups : List (Nat × Option Chunk)} {rs : List Nat} {w : World} {Im : Nat → Prop} {θ : Th} {ox oy : Operand}
  (hx : VRel P ω w Im θ x u) (hy : VRel P ω w Im θ y v) (hm : mrun h (binS P op t x y nx) = some (r, ups, nx', rs)) :
  ∃ z, ((do pure (Next.value (← (do eqGuard op t ox oy u v; binOp op t u v)))) : Sem Next).run P w = .ok (.value z) w ∧ VRel P ω w Im θ r z ∧ ups = [] ∧ nx' = nx := by
 have lift : ∀ (hg : (eqGuard op t ox oy u v).run P w = .ok () w) (hb : ∃ z, (binOp op t u v).run P w = .ok z w ∧ VRel P ω w Im θ r z ∧ ups = [] ∧ nx' = nx),
   ∃ z, ((do pure (Next.value (← (do eqGuard op t ox oy u v; binOp op t u v)))) : Sem Next).run P w = .ok (.value z) w ∧ VRel P ω w Im θ r z ∧ ups = [] ∧ nx' = nx := by
  rintro hg ⟨z, h1, h2⟩
  exact ⟨z, by simp [hg, h1], h2⟩
 unfold binS at hm
 split at hm
 · rename_i k a k' b
   cases hx; cases hy
   refine lift (run_eqGuard_skip (by simp) (by simp)) ?_
   by_cases hs : op = .shl ∨ op = .shr
   · have hm' : mrun h (shiftS op k a b nx) = some (r, ups, nx', rs) := by
       rcases hs with rfl | rfl <;> exact hm
     exact shift_run hm'
   · have hm' : mrun h (bif ikEq k k' then intBin op k a b .fail nx else .fail) = some (r, ups, nx', rs) := by
       cases op <;> first | exact hm | exact absurd (.inl rfl) hs | exact absurd (.inr rfl) hs
     cases hk : ikEq k k' with
     | false => simp [hk, mrun] at hm'
     | true =>
      have := ikEq_eq hk
      subst this
      simp only [hk, cond_true] at hm'
      exact intBin_run ⟨fun e => hs (.inl e), fun e => hs (.inr e)⟩ hm'
 · cases hx with
   | str h1 => cases hy with
    | str h2 => exact lift (run_eqGuard_skip (by simp) (by simp)) (str_run h1 h2 hm)
 · rename_i a b
   cases hx; cases hy
   refine lift (run_eqGuard_skip (by simp) (by simp)) ?_
   split at hm
   · rename_i hu hop
     rcases isEq_some hop with ⟨_, rfl⟩ | ⟨hh, _⟩
     · obtain ⟨rfl, rfl, rfl, _⟩ := mrun_done hm
       exact ⟨_, run_eql_bool w t a b hu, .bool, rfl, rfl⟩
     · cases hh
   · rename_i hu hop
     rcases isEq_some hop with ⟨hh, _⟩ | ⟨_, rfl⟩
     · cases hh
     · obtain ⟨rfl, rfl, rfl, _⟩ := mrun_done hm
       exact ⟨_, run_neq_bool w t a b hu, .bool, rfl, rfl⟩
   · simp [mrun] at hm
 · rename_i as bs
   cases hc : isAggT P t && plainEq P 40 t && !P.eqGuardType P.depth t && fitsAll P (leaves P 40 t) as && fitsAll P (leaves P 40 t) bs with
   | false => simp [hc, mrun] at hm
   | true =>
    simp only [hc, cond_true] at hm
    simp only [Bool.and_eq_true] at hc
    obtain ⟨⟨⟨⟨c1, c2⟩, c3⟩, c4⟩, c5⟩ := hc
    have hx0 := hx
    have hy0 := hy
    cases hx with
    | agg h1 h2 =>
     cases hy with
     | agg h3 h4 =>
      rename_i xs ys
      have hA : TRel P ω w Im θ t as (.agg xs) := .inl ⟨c1, xs, rfl, by simpa using h1, fun i v u hv hu => h2 i v u hv (by simpa using hu)⟩
      have hB : TRel P ω w Im θ t bs (.agg ys) := .inl ⟨c1, ys, rfl, by simpa using h3, fun i v u hv hu => h4 i v u hv (by simpa using hu)⟩
      refine lift (run_eqGuard_agg w op t ox oy xs ys (by simpa using c3)) ?_
      split at hm
      · rename_i rr hrr hop
        rcases isEq_some hop with ⟨_, rfl⟩ | ⟨hh, _⟩
        · obtain ⟨rfl, rfl, rfl, _⟩ := mrun_done hm
          refine ⟨.bool rr, ?_, .bool, rfl, rfl⟩
          rw [run_eql_struct, run_equalIn_plain 40 10000 t (by omega) c2 as bs _ _ rr c4 c5 hA hB hrr]
          rfl
        · cases hh
      · rename_i rr hrr hop
        rcases isEq_some hop with ⟨hh, _⟩ | ⟨_, rfl⟩
        · cases hh
        · obtain ⟨rfl, rfl, rfl, _⟩ := mrun_done hm
          refine ⟨.bool (!rr), ?_, .bool, rfl, rfl⟩
          rw [run_neq_struct, run_equalIn_plain 40 10000 t (by omega) c2 as bs _ _ rr c4 c5 hA hB hrr]
          rfl
      · simp [mrun] at hm
 · simp [mrun] at hm
theorem op_plain {κ : Nat → Option CSumm} {o : Oper} {a : Act} {w : World} {Im : Nat → Prop} {θ : Th} {h : HpF} {ev : Operand → SV} {nx nx' : Nat} {r : SV} {ups : List (Nat × Option Chunk)} {rs : List Nat}
  (hno : ∀ c, o.op ≠ .call c) (hr : HRel P ω w Im θ h) (hev : ∀ x ∈ o.op.operands, VRel P ω w Im θ (ev x) (a.eval x)) (hfr : ∀ x, nx ≤ x → x < nx' → θ x = none)
  (hm : mrun h (opM0 P κ o ev nx) = some (r, ups, nx', rs)) : Good P ω o a w Im θ h r ups nx nx' := by
 obtain ⟨dst, op, type, pos, after, guard⟩ := o
 cases op <;> simp only [opM0] at hm <;> simp only [Op.operands] at hev <;> try (simp [mrun] at hm; done)
 case move x =>
  obtain ⟨rfl, rfl, rfl, _⟩ := mrun_done hm
  exact good_value hr rfl (hev x (by simp))
 case assign x =>
  obtain ⟨rfl, rfl, rfl, _⟩ := mrun_done hm
  exact good_value hr rfl (hev x (by simp))
 case pick c x y =>
  have hc := hev c (by simp)
  have hx := hev x (by simp)
  have hy := hev y (by simp)
  split at hm
  · rename_i t ht
    rw [ht] at hc
    simp only [mrun] at hm
    cases t
    · simp only [Bool.false_eq_true, if_false] at hm
      obtain ⟨rfl, rfl, rfl, _⟩ := mrun_done (h := h) hm
      refine good_value hr ?_ hy
      generalize he : a.eval c = u at hc
      cases hc
      simp [execOp, he, asBool]
    · simp only [if_true] at hm
      obtain ⟨rfl, rfl, rfl, _⟩ := mrun_done (h := h) hm
      refine good_value hr ?_ hx
      generalize he : a.eval c = u at hc
      cases hc
      simp [execOp, he, asBool]
  · simp [mrun] at hm
 case alloc t =>
  split at hm
  · rename_i z hz
    split at hm
    · rename_i cs hcs
      obtain ⟨rfl, rfl, rfl, _⟩ := mrun_done hm
      unfold zeroS at hz
      cases hi : P.info? t with
      | none => simp [hi] at hz
      | some i =>
       cases hzi : i.zero with
       | none => simp [hi, hzi] at hz
       | some zv =>
        simp only [hi, hzi, Option.some.injEq] at hz
        subst hz
        have hl := cells_rel (ofValue_rel (P := P) (ω := ω) w Im θ zv) hcs
        obtain ⟨θ', he, hr', hn⟩ := alloc_ok hr (hfr nx (Nat.le_refl _) (Nat.lt_succ_self _)) (T := t) hl
        refine good_run ?_ he (.ptr hn) hr'
        simp [execOp, Instr.alloc, zeroValue, typeInfo, hi, hzi, newVar, newRow]
    · simp [mrun] at hm
  · simp [mrun] at hm
 case box t x =>
  split at hm
  · rename_i cs hcs
    obtain ⟨rfl, rfl, rfl, _⟩ := mrun_done hm
    have hl := cells_rel (hev x (by simp)) hcs
    obtain ⟨θ', he, hr', hn⟩ := alloc_ok hr (hfr nx (Nat.le_refl _) (Nat.lt_succ_self _)) (T := t) hl
    refine good_run ?_ he (.ptr hn) hr'
    simp [execOp, Instr.box, newVar, newRow]
  · simp [mrun] at hm
 case build t ps =>
  obtain ⟨v, h1, h2, rfl, rfl⟩ := build_run (P := P) (w := w) (Im := Im) (θ := θ) (qs := ps.map fun (i, x) => (i, a.eval x)) (by simp) (fun i p q hp hq => by
   simp only [List.getElem?_map, Array.getElem?_toList, Option.map_eq_some_iff] at hp
   obtain ⟨c, hc, rfl⟩ := hp
   simp only [Array.getElem?_map, hc, Option.map_some, Option.some.injEq] at hq
   subst hq
   exact ⟨rfl, hev c.2 (by simp; exact ⟨c.1, by simpa using Array.mem_of_getElem? hc⟩)⟩) hm
  refine good_value hr ?_ h2
  simp [execOp, h1]
 case load t x =>
  have hx := hev x (by simp)
  split at hm
  · rename_i y off he
    rw [he] at hx
    generalize hu : a.eval x = u at hx
    cases hx with
    | ptr hθ =>
     rename_i b N
     simp only [mrun] at hm
     cases hy : h y with
     | none => simp [hy] at hm
     | some c =>
      cases c with
      | seq e es => simp [hy, mrun] at hm
      | loopr => simp [hy, mrun] at hm
      | mpc => simp [hy, mrun] at hm
      | mpb => simp [hy, mrun] at hm
      | mpn => simp [hy, mrun] at hm
      | mit => simp [hy, mrun] at hm
      | sqo => simp [hy, mrun] at hm
      | sqp => simp [hy, mrun] at hm
      | ext => simp [hy, mrun] at hm
      | cells T vs =>
       simp only [hy] at hm
       cases hp : partS P t vs off with
       | none => simp [hp, mrun] at hm
       | some v =>
        simp only [hp, mrun, Option.some.injEq, Prod.mk.injEq] at hm
        obtain ⟨rfl, rfl, rfl, _⟩ := hm
        obtain ⟨b', cs, fr, h1, h2, h3, h4⟩ := hr.at_ y _ hy
        rw [hθ] at h1
        simp only [Option.some.injEq, Prod.mk.injEq] at h1
        obtain ⟨rfl, _⟩ := h1
        obtain ⟨u, hru, hvu⟩ := run_loadVar_rel h2 h4 hp
        refine good_value hr ?_ hvu
        simp [execOp, hu, Instr.loadAt, Instr.sureAddr, hru]
  · simp [mrun] at hm
 case store t x v =>
  have hx := hev x (by simp)
  have hv := hev v (by simp)
  split at hm
  · rename_i y off vs he hc
    rw [he] at hx
    generalize hu : a.eval x = u at hx
    cases hx with
    | ptr hθ =>
     rename_i b N
     cases hb : Nat.beq vs.length (P.cellsOf t) && knownT P t with
     | false => simp [hb, mrun] at hm
     | true =>
      simp only [hb, cond_true, mrun] at hm
      cases hy : h y with
      | none => simp [hy] at hm
      | some c =>
       cases c with
       | seq e es => simp [hy, mrun] at hm
       | loopr => simp [hy, mrun] at hm
       | mpc => simp [hy, mrun] at hm
       | mpb => simp [hy, mrun] at hm
       | mpn => simp [hy, mrun] at hm
       | mit => simp [hy, mrun] at hm
       | sqo => simp [hy, mrun] at hm
       | sqp => simp [hy, mrun] at hm
       | ext => simp [hy, mrun] at hm
       | cells T cs =>
        simp only [hy] at hm
        cases hs : splice cs off vs with
        | none => simp [hs, mrun] at hm
        | some cs' =>
         simp only [hs, mrun, Option.some.injEq, Prod.mk.injEq] at hm
         obtain ⟨rfl, rfl, rfl, _⟩ := hm
         obtain ⟨hle, rfl⟩ := splice_spec _ _ _ _ hs
         obtain ⟨b', us, fr, h1, h2, h3, h4⟩ := hr.at_ y _ hy
         have hθ0 := h1
         rw [hθ] at h1
         simp only [Option.some.injEq, Prod.mk.injEq] at h1
         obtain ⟨rfl, _⟩ := h1
         have hvr := cells_rel hv hc
         have hlen : us.size = cs.length := by simpa using h4.len.symm
         have hvl : (a.eval v).cells.toList.length = vs.length := hvr.len.symm
         have hvs : (a.eval v).cells.size = P.cellsOf t := by
          simp only [Bool.and_eq_true] at hb
          have := Nat.eq_of_beq_eq_true hb.1
          simp at hvl; omega
         have hst := run_storeCells_fine P b off T fr (a.eval v).cells.toList 0 us w h2 h3 (by rw [hvl]; omega) (hvr.one (oneS_one hc))
         have hw := write_ok hr (nx := nx) hy hθ0 h2 h3 hlen (vs' := cs.take off ++ vs ++ cs.drop (off + vs.length)) (us' := us.toList.take off ++ (a.eval v).cells.toList ++ us.toList.drop (off + vs.length)) (by simp; omega)
          (((h4.takeL off).append hvr).append (h4.dropL _))
         refine good_skip ?_ hw.1 hw.2
         have hsz : (sizeOf t).run P w = .ok (P.cellsOf t) w := by
          simp only [Bool.and_eq_true, knownT] at hb
          obtain ⟨i, hi⟩ := Option.isSome_iff_exists.1 hb.2
          exact run_sizeOf' hi w
         simp only [Nat.add_zero] at hst
         rw [hvl] at hst
         simp [execOp, hu, Instr.storeAt, Instr.sureAddr, storeVar, hsz, hvs, hst]
  · simp [mrun] at hm
 case nilCheck x =>
  have hx := hev x (by simp)
  split at hm
  · rename_i y off he
    obtain ⟨rfl, rfl, rfl, _⟩ := mrun_done hm
    rw [he] at hx
    generalize hu : a.eval x = u at hx
    refine good_value hr ?_ hx
    cases hx
    simp [execOp, hu]
  · rename_i f as bs he
    obtain ⟨rfl, rfl, rfl, _⟩ := mrun_done hm
    rw [he] at hx
    generalize hu : a.eval x = u at hx
    refine good_value hr ?_ hx
    cases hx
    simp [execOp, hu]
  · simp [mrun] at hm
 case binOp op t x y yt =>
  have hx := hev x (by simp)
  have hy := hev y (by simp)
  split at hm
  · rename_i b hb hop
    obtain ⟨rfl, rfl, rfl, _⟩ := mrun_done hm
    rcases isEq_some hop with ⟨_, rfl⟩ | ⟨hh, _⟩
    · obtain ⟨r1, r2, r3, r4, r5⟩ := nilEq_run hb hx hy
      refine good_value hr ?_ .bool
      simp only [execOp, r4]
      simp [run_eqGuard_skip r2 r3, r1]
    · cases hh
  · rename_i b hb hop
    obtain ⟨rfl, rfl, rfl, _⟩ := mrun_done hm
    rcases isEq_some hop with ⟨hh, _⟩ | ⟨_, rfl⟩
    · cases hh
    · obtain ⟨r1, r2, r3, r4, r5⟩ := nilEq_run hb hx hy
      refine good_value hr ?_ .bool
      simp only [execOp, r5]
      simp [run_eqGuard_skip r2 r3, r1]
  · obtain ⟨v, h1, h2, rfl, rfl⟩ := binS_run (P := P) (ox := x) (oy := y) hx hy hm
    refine good_value hr ?_ h2
    simp only [execOp]
    exact h1
 case unOp op t x =>
  have hx := hev x (by simp)
  split at hm
  · rename_i b he
    obtain ⟨rfl, rfl, rfl, _⟩ := mrun_done hm
    rw [he] at hx
    generalize hu : a.eval x = u at hx
    cases hx
    exact good_value hr (by simp [execOp, hu, Op.unary]) .bool
  · rename_i k n he
    obtain ⟨rfl, rfl, rfl, _⟩ := mrun_done hm
    rw [he] at hx
    generalize hu : a.eval x = u at hx
    cases hx
    exact good_value hr (by simp [execOp, hu, Op.unary, Op.intArith]) .int
  · simp [mrun] at hm
 case convert s d x =>
  have hx := hev x (by simp)
  unfold convS at hm
  split at hm
  · rename_i k1 k2 k3 n h1 h2 he
    obtain ⟨rfl, rfl, rfl, _⟩ := mrun_done hm
    rw [he] at hx
    generalize hu : a.eval x = u at hx
    cases hx
    exact good_value hr (by simp [execOp, hu, Go.convert, run_underlying h1, run_underlying h2, Conv.intToInt]) .int
  · rename_i l h1 h2 he
    obtain ⟨rfl, rfl, rfl, _⟩ := mrun_done hm
    rw [he] at hx
    generalize hu : a.eval x = u at hx
    refine good_value hr ?_ hx
    cases hx
    simp [execOp, hu, Go.convert, run_underlying h1, run_underlying h2]
  · simp [mrun] at hm
 case makeFunc f as bs =>
  cases f <;> simp only [] at hm <;> try (simp [mrun] at hm; done)
  obtain ⟨rfl, rfl, rfl, _⟩ := mrun_done hm
  refine good_value hr (v := .func _ (as.map a.eval) (bs.map a.eval)) (by simp [execOp, Instr.makeFunc]) (.fn (by simp) (by simp) (fun i v u hv hu => ?_) (fun i v u hv hu => ?_))
  · simp only [List.getElem?_map, Array.getElem?_toList, Option.map_eq_some_iff] at hv
    obtain ⟨c, hc, rfl⟩ := hv
    simp only [Array.getElem?_map, hc, Option.map_some, Option.some.injEq] at hu
    subst hu
    exact hev c (by simp; exact .inl (Array.mem_of_getElem? hc))
  · simp only [List.getElem?_map, Array.getElem?_toList, Option.map_eq_some_iff] at hv
    obtain ⟨c, hc, rfl⟩ := hv
    simp only [Array.getElem?_map, hc, Option.map_some, Option.some.injEq] at hu
    subst hu
    exact hev c (by simp; exact .inr (Array.mem_of_getElem? hc))
 case fieldAddr t x f =>
  have hx := hev x (by simp)
  split at hm
  · rename_i y off fs he hu
    rw [he] at hx
    generalize hux : a.eval x = u at hx
    cases hx with
    | ptr hθ =>
     cases hf : fs[f]? with
     | none => simp [hf, mrun] at hm
     | some fd =>
      simp only [hf] at hm
      cases hz : Nat.beq (P.cellsOf fd.type) 0 with
      | true => simp [hz, mrun] at hm
      | false =>
       simp only [hz, cond_false] at hm
       obtain ⟨rfl, rfl, rfl, _⟩ := mrun_done hm
       have hne : P.cellsOf fd.type ≠ 0 := fun e => by rw [nb_t e] at hz; cases hz
       obtain ⟨i, hi⟩ := info_of_cells hne
       refine good_value hr ?_ (.ptr hθ)
       simp [execOp, hux, Instr.fieldAt, run_underlying hu, hf, Instr.sureAddr, fieldPlace, run_sizeOf' hi, hne, add_off]
  · simp [mrun] at hm
 case field t x f =>
  have hx := hev x (by simp)
  split at hm
  · rename_i cs fs he hu
    rw [he] at hx
    generalize hux : a.eval x = u at hx
    cases hx with
    | agg h1 h2 =>
     rename_i us
     have hl : LRel P ω w Im θ cs us.toList := ⟨by simpa using h1, fun i v u hv hu => h2 i v u hv (by simpa using hu)⟩
     cases hf : fs[f]? with
     | none => simp [hf, mrun] at hm
     | some fd =>
      simp only [hf] at hm
      cases hp : partS P fd.type cs fd.offset with
      | none => simp [hp, mrun] at hm
      | some v =>
       simp only [hp] at hm
       obtain ⟨rfl, rfl, rfl, _⟩ := mrun_done hm
       obtain ⟨u, hru, hvu⟩ := run_part_rel hl hp
       refine good_value hr ?_ hvu
       simp [execOp, hux, Instr.field, run_underlying hu, hf, asAgg, hru]
  · simp [mrun] at hm
 case extract x i =>
  have hx := hev x (by simp)
  split at hm
  · rename_i vs he
    rw [he] at hx
    generalize hux : a.eval x = u at hx
    cases hx with
    | tup h1 h2 =>
     rename_i us
     cases hn : nth? vs i with
     | none => simp [hn, mrun] at hm
     | some v =>
      simp only [hn] at hm
      obtain ⟨rfl, rfl, rfl, _⟩ := mrun_done hm
      rw [nth?_eq] at hn
      have hlt : i < vs.length := by
       rcases Nat.lt_or_ge i vs.length with h | h
       · exact h
       · simp [List.getElem?_eq_none h] at hn
      have hlt' : i < us.size := by omega
      refine good_value hr ?_ (h2 i v us[i] hn (by simp [hlt']))
      simp [execOp, hux, Instr.extract, hlt']
  · simp [mrun] at hm
 case buildSlice t n ps =>
  obtain ⟨us, cs, e, h1, hl, hcl, rfl, rfl, rfl⟩ := build_slice_run (P := P) (w := w) (Im := Im) (θ := θ) (qs := ps.map fun (i, x) => (i, a.eval x)) (by simp) (fun i p q hp hq => by
   simp only [List.getElem?_map, Array.getElem?_toList, Option.map_eq_some_iff] at hp
   obtain ⟨c, hc, rfl⟩ := hp
   simp only [Array.getElem?_map, hc, Option.map_some, Option.some.injEq] at hq
   subst hq
   exact ⟨rfl, hev c.2 (by simp; exact ⟨c.1, Array.mem_of_getElem? hc⟩)⟩) hm
  obtain ⟨θ', he, hr', hn⟩ := alloc_ok hr (hfr nx (Nat.le_refl _) (Nat.lt_succ_self _)) (T := e) hl
  refine good_run ?_ he (.sl hn (by rw [hcl]; omega) (Nat.le_refl _)) hr'
  simp [execOp, h1]
 case makeSlice t l c =>
  obtain ⟨us, cs, e, n, k, h1, hl, hcl, hnk, rfl, rfl, rfl⟩ := make_slice_run (w := w) (Im := Im) (θ := θ) hm (hev l (by simp)) (hev c (by simp))
  obtain ⟨θ', he, hr', hn⟩ := alloc_ok hr (hfr nx (Nat.le_refl _) (Nat.lt_succ_self _)) (T := e) hl
  refine good_run ?_ he (.sl hn (by rw [hcl]; omega) hnk) hr'
  simp [execOp, h1]
 case slice t x lo hi mx =>
  refine good_of hr (Instr.sliceAt t (a.eval x) (lo.map a.eval) (hi.map a.eval) (mx.map a.eval)) rfl (run_slice hm (hev x (by simp)) (fun h => ?_) (fun v h => ?_) (fun h => ?_) (fun v h => ?_) (fun h => ?_))
  · cases lo <;> simp_all
  · cases lo with
    | none => cases h
    | some l => cases h; exact ⟨_, rfl, hev l (by simp)⟩
  · cases hi <;> simp_all
  · cases hi with
    | none => cases h
    | some l => cases h; exact ⟨_, rfl, hev l (by simp)⟩
  · cases mx <;> simp_all
 case indexAddr t x ix => exact good_of hr (Instr.indexAt t (a.eval x) (a.eval ix)) rfl (run_indexAddr hm (hev x (by simp)) (hev ix (by simp)))
 case index t x ix => exact good_of hr (Instr.index t (a.eval x) (a.eval ix)) rfl (run_index hm (hev x (by simp)) (hev ix (by simp)))
 case call c => exact absurd rfl (hno c)
end Go.Am
/- The abstract machine: lists that grow: what becomes of the heap. -/
namespace Go.Am
variable {P : Program} {ω : Nat → Value}
theorem heap_lt {w : World} {b : Nat} {o : Obj} (h : w.heap[b]? = some o) : b < w.heap.size := (Array.getElem?_eq_some_iff.1 h).1
theorem updF_app (a b : List (Nat × Option Chunk)) (h : HpF) : updF (a ++ b) h = updF b (updF a h) := by
 induction a generalizing h with
 | nil => rfl
 | cons p a ih => obtain ⟨x, c⟩ := p; simp only [List.cons_append, updF]; exact ih _
theorem memN_iff' : ∀ (x : Nat) (l : List Nat), memN x l = true ↔ x ∈ l
 | x, [] => by simp [memN]
 | x, y :: l => by
  have ih := memN_iff' x l
  simp only [memN, Bool.or_eq_true, List.mem_cons, ih]
  constructor
  · rintro (h | h)
    · exact .inl (Nat.eq_of_beq_eq_true h)
    · exact .inr h
  · rintro (h | h)
    · exact .inl (nb_t h)
    · exact .inr h
theorem updF_drops : ∀ (ys : List Nat) (h : HpF) (x : Nat), updF (drops ys) h x = if x ∈ ys then none else h x
 | [], h, x => by simp [drops, updF]
 | y :: ys, h, x => by
  simp only [drops, updF]
  rw [updF_drops ys _ x]
  by_cases h1 : x ∈ ys
  · simp [h1]
  · by_cases h2 : x = y
    · subst h2; simp
    · simp [h1, h2]
theorem updF_drops_some {ys : List Nat} {h : HpF} {x : Nat} {c : Chunk} : updF (drops ys) h x = some c ↔ x ∉ ys ∧ h x = some c := by
 rw [updF_drops]
 by_cases h1 : x ∈ ys <;> simp [h1]
def blocksOf (θ : Th) (h : HpF) (ys : List Nat) (b : Nat) : Prop := ∃ y ∈ ys, ∃ c N, h y = some c ∧ θ y = some (b, N)
def frozenBy (Im : Nat → Prop) (θ : Th) (h : HpF) (ys : List Nat) (b : Nat) : Prop := Im b ∨ blocksOf θ h ys b
theorem frozenBy_up {Im : Nat → Prop} {θ : Th} {h : HpF} {ys : List Nat} (w : World) : ∀ b, Im b → frozenBy Im θ h ys b ∧ w.heap[b]? = w.heap[b]? := fun _ hb => ⟨.inl hb, rfl⟩
theorem name_step {w w' : World} {Im : Nat → Prop} {θ : Th} {h : HpF} (hr : HRel P ω w Im θ h) {nx : Nat} (hθ : θ nx = none) (hnx : h nx = none) {ds ys : List Nat} (hsub : ∀ y ∈ ys, y ∈ ds) {b N : Nat}
  (hb : (w.heap.size ≤ b ∧ b < w'.heap.size) ∨ ∃ y c N', y ∈ ds ∧ y ∉ ys ∧ h y = some c ∧ θ y = some (b, N')) (hsz : w.heap.size ≤ w'.heap.size) (hold : ∀ d, d ≠ b → d < w.heap.size → w'.heap[d]? = w.heap[d]?)
  (hos : w'.os = w.os) (hou : w'.output = w.output) (hta : w'.tape = w.tape) (hdr : w.drawn ≤ w'.drawn) (c : Chunk)
  (hc : ∀ θ' : Th, θ' nx = some (b, N) → (∀ x p, θ x = some p → θ' x = some p) → (∀ d, frozenBy Im θ h ys d → frozenBy Im θ h ys d ∧ w'.heap[d]? = w.heap[d]?) → CRel P ω w' (frozenBy Im θ h ys) θ' nx c) :
  ∃ θ' : Th, Ext (fun x => nx ≤ x ∧ x < nx + 1) h w Im θ (updF (drops ds ++ [(nx, some c)]) h) w' (frozenBy Im θ h ys) θ' ∧ HRel P ω w' (frozenBy Im θ h ys) θ' (updF (drops ds ++ [(nx, some c)]) h) ∧ θ' nx = some (b, N) := by
 let θ' : Th := fun x => if x = nx then some (b, N) else θ x
 have hup : ∀ x p, θ x = some p → θ' x = some p := by
  intro x p hp
  by_cases hx : x = nx
  · subst hx; rw [hθ] at hp; cases hp
  · simp [θ', hx, hp]
 have hg : ∀ x d, updF (drops ds ++ [(nx, some c)]) h x = some d → (x = nx ∧ d = c) ∨ (x ≠ nx ∧ x ∉ ds ∧ h x = some d) := by
  intro x d hx
  rw [updF_app] at hx
  simp only [updF] at hx
  by_cases hxn : x = nx
  · simp [hxn] at hx; exact .inl ⟨hxn, hx.symm⟩
  · simp only [if_neg hxn] at hx
    exact .inr ⟨hxn, updF_drops_some.1 hx⟩
 have hImlt : ∀ d, frozenBy Im θ h ys d → d < w.heap.size := by
  rintro d (hd | ⟨y, _, c', N', hy, hyθ⟩)
  · exact hr.im d hd
  · exact (hr.own y c' d N' hy hyθ).2
 have hbIm : ¬ frozenBy Im θ h ys b := by
  intro hh
  rcases hb with ⟨h1, _⟩ | ⟨y, c', N', h1, h2, h3, h4⟩
  · have := hImlt b hh; omega
  · rcases hh with hh | ⟨z, hz, c2, N2, hz1, hz2⟩
    · exact (hr.own y c' b N' h3 h4).1 hh
    · have := hr.inj y z c' c2 b N' N2 h3 hz1 h4 hz2
      subst this
      exact h2 hz
 have hother : ∀ x d M, x ∉ ds → ∀ c', h x = some c' → θ x = some (d, M) → d ≠ b := by
  rintro x d M hx c' hxc hxθ rfl
  rcases hb with ⟨h1, _⟩ | ⟨y, c2, N', h1, h2, h3, h4⟩
  · have := (hr.own x c' d M hxc hxθ).2; omega
  · have := hr.inj x y c' c2 d M N' hxc h3 hxθ h4
    subst this
    exact hx h1
 have hIm : ∀ d, Im d → frozenBy Im θ h ys d ∧ w'.heap[d]? = w.heap[d]? := fun d hd =>
  ⟨.inl hd, hold d (fun e => hbIm (by rw [← e]; exact .inl hd)) (hr.im d hd)⟩
 have hIm' : ∀ d, frozenBy Im θ h ys d → w'.heap[d]? = w.heap[d]? := fun d hd => hold d (fun e => hbIm (by rw [← e]; exact hd)) (hImlt d hd)
 refine ⟨θ', ?_, ?_, by simp [θ']⟩
 · refine ⟨?_, hup, fun _ h => .inl h, hsz, ?_, ?_, ?_, hos, hou, hta, hdr⟩
   · intro x hx
     have : x ≠ nx := by intro e; subst e; exact hx ⟨Nat.le_refl _, Nat.lt_succ_self _⟩
     simp [θ', this]
   · intro d hd hno
     refine hold d (fun e => ?_) hd
     subst e
     rcases hb with ⟨h1, _⟩ | ⟨y, c', N', h1, h2, h3, h4⟩
     · omega
     · exact hno y c' N' h3 h4
   · rintro d (hd | ⟨y, _, c', N', hy, hyθ⟩)
     · exact .inl hd
     · exact .inr (.inl ⟨y, c', N', hy, hyθ⟩)
   · intro x d e M hx he
     rcases hg x d hx with ⟨rfl, rfl⟩ | ⟨h1, h2, h3⟩
     · simp [θ'] at he
       obtain ⟨rfl, rfl⟩ := he
       rcases hb with ⟨h1, _⟩ | ⟨y, c', N', h1, h2, h3, h4⟩
       · exact .inr h1
       · exact .inl ⟨y, c', N', h3, h4⟩
     · simp [θ', h1] at he
       exact .inl ⟨x, d, M, h3, he⟩
 · refine ⟨?_, ?_, ?_, fun d hd => Nat.lt_of_lt_of_le (hImlt d hd) hsz, hr.gl.mono hIm⟩
   · intro x d hx
     rcases hg x d hx with ⟨rfl, rfl⟩ | ⟨h1, h2, h3⟩
     · exact hc θ' (by simp [θ']) hup (fun d hd => ⟨hd, hIm' d hd⟩)
     · exact (hr.at_ x d h3).mono hIm hup (by simp [θ', h1]) (fun e M he => hold e (hother x e M h2 d h3 he) (hr.own x d e M h3 he).2)
   · intro x y d d' e M M' hx hy he he'
     rcases hg x d hx with ⟨rfl, rfl⟩ | ⟨h1, h2, h3⟩
     · rcases hg y d' hy with ⟨rfl, rfl⟩ | ⟨g1, g2, g3⟩
       · rfl
       · simp [θ'] at he
         simp [θ', g1] at he'
         exact absurd he.1.symm (hother y e M' g2 d' g3 he')
     · rcases hg y d' hy with ⟨rfl, rfl⟩ | ⟨g1, g2, g3⟩
       · simp [θ', h1] at he
         simp [θ'] at he'
         exact absurd he'.1.symm (hother x e M h2 d h3 he)
       · simp [θ', h1] at he
         simp [θ', g1] at he'
         exact hr.inj x y d d' e M M' h3 g3 he he'
   · intro x d e M hx he
     rcases hg x d hx with ⟨rfl, rfl⟩ | ⟨h1, h2, h3⟩
     · simp [θ'] at he
       obtain ⟨rfl, rfl⟩ := he
       refine ⟨hbIm, ?_⟩
       rcases hb with ⟨_, h1⟩ | ⟨y, c', N', h1, h2, h3, h4⟩
       · exact h1
       · exact Nat.lt_of_lt_of_le (hr.own y c' b N' h3 h4).2 hsz
     · simp [θ', h1] at he
       have ho := hr.own x d e M h3 he
       refine ⟨fun hh => ?_, Nat.lt_of_lt_of_le ho.2 hsz⟩
       rcases hh with hh | ⟨y, hy, c2, N2, hy1, hy2⟩
       · exact ho.1 hh
       · have := hr.inj x y d c2 e M N2 h3 hy1 he hy2
         subst this
         exact h2 (hsub _ hy)
theorem none_step {w : World} {Im : Nat → Prop} {θ : Th} {h : HpF} (hr : HRel P ω w Im θ h) {nx : Nat} (hθ : θ nx = none) {ds ys : List Nat} (hsub : ∀ y ∈ ys, y ∈ ds) (e : TypeId) :
  Ext (fun x => nx ≤ x ∧ x < nx + 1) h w Im θ (updF (drops ds ++ [(nx, some (.seq e []))]) h) w (frozenBy Im θ h ys) θ ∧ HRel P ω w (frozenBy Im θ h ys) θ (updF (drops ds ++ [(nx, some (.seq e []))]) h) := by
 have hg : ∀ x d, updF (drops ds ++ [(nx, some (.seq e []))]) h x = some d → (x = nx ∧ d = .seq e []) ∨ (x ≠ nx ∧ x ∉ ds ∧ h x = some d) := by
  intro x d hx
  rw [updF_app] at hx
  simp only [updF] at hx
  by_cases hxn : x = nx
  · simp [hxn] at hx; exact .inl ⟨hxn, hx.symm⟩
  · simp only [if_neg hxn] at hx
    exact .inr ⟨hxn, updF_drops_some.1 hx⟩
 have hImlt : ∀ d, frozenBy Im θ h ys d → d < w.heap.size := by
  rintro d (hd | ⟨y, _, c', N', hy, hyθ⟩)
  · exact hr.im d hd
  · exact (hr.own y c' d N' hy hyθ).2
 refine ⟨⟨fun _ _ => rfl, fun _ _ h => h, fun _ h => .inl h, Nat.le_refl _, fun _ _ _ => rfl, ?_, ?_, rfl, rfl, rfl, Nat.le_refl _⟩, ⟨?_, ?_, ?_, hImlt, hr.gl.mono (frozenBy_up w)⟩⟩
 · rintro d (hd | ⟨y, _, c', N', hy, hyθ⟩)
   · exact .inl hd
   · exact .inr (.inl ⟨y, c', N', hy, hyθ⟩)
 · intro x d e' M hx he
   rcases hg x d hx with ⟨rfl, rfl⟩ | ⟨h1, h2, h3⟩
   · rw [hθ] at he; cases he
   · exact .inl ⟨x, d, M, h3, he⟩
 · intro x d hx
   rcases hg x d hx with ⟨rfl, rfl⟩ | ⟨h1, h2, h3⟩
   · exact .inl ⟨rfl, hθ⟩
   · exact (hr.at_ x d h3).mono (frozenBy_up w) (fun _ _ h => h) rfl (fun _ _ _ => rfl)
 · intro x y d d' e' M M' hx hy he he'
   rcases hg x d hx with ⟨rfl, rfl⟩ | ⟨h1, h2, h3⟩
   · rw [hθ] at he; cases he
   · rcases hg y d' hy with ⟨rfl, rfl⟩ | ⟨g1, g2, g3⟩
     · rw [hθ] at he'; cases he'
     · exact hr.inj x y d d' e' M M' h3 g3 he he'
 · intro x d e' M hx he
   rcases hg x d hx with ⟨rfl, rfl⟩ | ⟨h1, h2, h3⟩
   · rw [hθ] at he; cases he
   · have ho := hr.own x d e' M h3 he
     refine ⟨fun hh => ?_, ho.2⟩
     rcases hh with hh | ⟨y, hy, c2, N2, hy1, hy2⟩
     · exact ho.1 hh
     · have := hr.inj x y d c2 e' M N2 h3 hy1 he hy2
       subst this
       exact h2 (hsub _ hy)
theorem drop_step {w : World} {Im : Nat → Prop} {θ : Th} {h : HpF} (hr : HRel P ω w Im θ h) {new : Nat → Prop} (ys : List Nat) :
  Ext new h w Im θ (updF (drops ys) h) w (frozenBy Im θ h ys) θ ∧ HRel P ω w (frozenBy Im θ h ys) θ (updF (drops ys) h) := by
 have hImlt : ∀ d, frozenBy Im θ h ys d → d < w.heap.size := by
  rintro d (hd | ⟨y, _, c', N', hy, hyθ⟩)
  · exact hr.im d hd
  · exact (hr.own y c' d N' hy hyθ).2
 refine ⟨⟨fun _ _ => rfl, fun _ _ h => h, fun _ h => .inl h, Nat.le_refl _, fun _ _ _ => rfl, ?_, ?_, rfl, rfl, rfl, Nat.le_refl _⟩, ⟨?_, ?_, ?_, hImlt, hr.gl.mono (frozenBy_up w)⟩⟩
 · rintro d (hd | ⟨y, _, c', N', hy, hyθ⟩)
   · exact .inl hd
   · exact .inr (.inl ⟨y, c', N', hy, hyθ⟩)
 · intro x d e' M hx he
   exact .inl ⟨x, d, M, (updF_drops_some.1 hx).2, he⟩
 · intro x d hx
   exact (hr.at_ x d (updF_drops_some.1 hx).2).mono (frozenBy_up w) (fun _ _ h => h) rfl (fun _ _ _ => rfl)
 · intro x y d d' e' M M' hx hy he he'
   exact hr.inj x y d d' e' M M' (updF_drops_some.1 hx).2 (updF_drops_some.1 hy).2 he he'
 · intro x d e' M hx he
   obtain ⟨h2, h3⟩ := updF_drops_some.1 hx
   have ho := hr.own x d e' M h3 he
   refine ⟨fun hh => ?_, ho.2⟩
   rcases hh with hh | ⟨y, hy, c2, N2, hy1, hy2⟩
   · exact ho.1 hh
   · have := hr.inj x y d c2 e' M N2 h3 hy1 he hy2
     subst this
     exact h2 hy
theorem put_block {w : World} {Im : Nat → Prop} {θ : Th} {h : HpF} (hr : HRel P ω w Im θ h) {x b N : Nat} {c : Chunk} (hx : h x = some c) (hθ : θ x = some (b, N)) (o : Obj) (c' : Option Chunk)
  (hc : (∀ d, Im d → Im d ∧ (w.putObj b o).heap[d]? = w.heap[d]?) → ∀ d, c' = some d → CRel P ω (w.putObj b o) Im θ x d) :
  Ext (fun _ => False) h w Im θ (updF [(x, c')] h) (w.putObj b o) Im θ ∧ HRel P ω (w.putObj b o) Im θ (updF [(x, c')] h) := by
 have hown := hr.own x _ b _ hx hθ
 have hI : ∀ d, Im d → Im d ∧ (w.putObj b o).heap[d]? = w.heap[d]? := fun d hd => ⟨hd, World.putObj_heap_other (fun e => hown.1 (e ▸ hd))⟩
 refine ⟨⟨fun _ _ => rfl, fun _ _ h => h, fun _ h => h, by simp, ?_, fun d hd => .inl hd, ?_, rfl, rfl, rfl, Nat.le_refl _⟩, ?_, ?_, ?_, fun d hd => by simpa using hr.im d hd, hr.gl.mono hI⟩
 · intro d hd hno
   exact World.putObj_heap_other (fun e => hno x _ N hx (by rw [hθ, e]))
 · intro y d e M hy he
   by_cases hyx : y = x
   · subst hyx; exact .inl ⟨y, _, M, hx, he⟩
   · simp [updF, hyx] at hy; exact .inl ⟨y, d, M, hy, he⟩
 · intro y d hy
   by_cases hyx : y = x
   · subst hyx
     simp [updF] at hy
     exact hc hI d hy
   · simp [updF, hyx] at hy
     refine (hr.at_ y d hy).mono hI (fun _ _ h => h) rfl (fun e M he => World.putObj_heap_other (fun ee => ?_))
     subst ee
     exact hyx (hr.inj y x d c e M N hy hx he hθ)
 · intro y z d d' e M M' hy hz he he'
   have old : ∀ y d, updF [(x, c')] h y = some d → ∃ d0, h y = some d0 := by
    intro y d hy
    by_cases hyx : y = x
    · subst hyx; exact ⟨c, hx⟩
    · simp [updF, hyx] at hy; exact ⟨d, hy⟩
   obtain ⟨d0, h0⟩ := old y d hy
   obtain ⟨d1, h1⟩ := old z d' hz
   exact hr.inj y z d0 d1 e M M' h0 h1 he he'
 · intro y d e M hy he
   by_cases hyx : y = x
   · subst hyx
     have := hr.own y c e M hx he
     exact ⟨this.1, by simpa using this.2⟩
   · simp [updF, hyx] at hy
     have := hr.own y d e M hy he
     exact ⟨this.1, by simpa using this.2⟩
end Go.Am
/- The abstract machine: the elements of lists. -/
namespace Go.Am
variable {P : Program} {ω : Nat → Value}
/- Cells, element by element. -/
def flat (us : Nat → Value) : Nat → List Value
 | 0 => []
 | m + 1 => flat us m ++ (us m).cells.toList
theorem flat_len {us : Nat → Value} {sz : Nat} : ∀ (m : Nat), (∀ i, i < m → (us i).cells.size = sz) → (flat us m).length = m * sz
 | 0, _ => by simp [flat]
 | m + 1, h => by
  simp only [flat, List.length_append, flat_len m (fun i hi => h i (by omega))]
  have := h m (by omega)
  simp [this, Nat.add_mul]
theorem flat_get {us : Nat → Value} {sz : Nat} : ∀ (m : Nat), (∀ i, i < m → (us i).cells.size = sz) → ∀ i d, i < m → d < sz → (flat us m)[i * sz + d]? = (us i).cells[d]?
 | 0, _, i, _, hi, _ => by omega
 | m + 1, h, i, d, hi, hd => by
  have hl := flat_len (us := us) m (fun i hi => h i (by omega))
  simp only [flat]
  by_cases hm : i < m
  · have h1 : (i + 1) * sz ≤ m * sz := Nat.mul_le_mul_right _ hm
    rw [Nat.add_mul] at h1
    rw [List.getElem?_append_left (by omega)]
    exact flat_get m (fun i hi => h i (by omega)) i d hm hd
  · have : i = m := by omega
    subst this
    rw [List.getElem?_append_right (by omega), hl]
    have : i * sz + d - i * sz = d := by omega
    rw [this, Array.getElem?_toList]
theorem flat_mem {us : Nat → Value} : ∀ (m : Nat) (u : Value), u ∈ flat us m → ∃ i, i < m ∧ u ∈ (us i).cells.toList
 | 0, _, h => by simp [flat] at h
 | m + 1, u, h => by
  simp only [flat, List.mem_append] at h
  rcases h with h | h
  · obtain ⟨i, hi, hu⟩ := flat_mem m u h
    exact ⟨i, by omega, hu⟩
  · exact ⟨m, by omega, h⟩
theorem flat_congr {us vs : Nat → Value} : ∀ (m : Nat), (∀ i, i < m → us i = vs i) → flat us m = flat vs m
 | 0, _ => rfl
 | m + 1, h => by simp only [flat]; rw [flat_congr m (fun i hi => h i (by omega)), h m (by omega)]
theorem flat_add (us vs : Nat → Value) (n : Nat) : ∀ (m : Nat), flat (fun i => if i < n then us i else vs (i - n)) (n + m) = flat us n ++ flat vs m
 | 0 => by
  simp only [Nat.add_zero, flat, List.append_nil]
  exact flat_congr n (fun i hi => by simp [hi])
 | m + 1 => by
  rw [← Nat.add_assoc]
  simp only [flat, flat_add us vs n m]
  have h1 : ¬ n + m < n := by omega
  have h2 : n + m - n = m := by omega
  simp only [if_neg h1, h2, List.append_assoc]
theorem flat_at {us : Nat → Value} {sz m : Nat} (h : ∀ i, i < m → (us i).cells.size = sz) {at_ : Nat → Option Value} (hc : ∀ i, i < m → ∀ (d : Nat) (c : Value), (us i).cells[d]? = some c → at_ (i * sz + d) = some c) :
  ∀ j u, (flat us m)[j]? = some u → at_ j = some u := by
 intro j u hj
 have hl := flat_len m h
 have hjl : j < m * sz := by
  rw [← hl]
  rcases Nat.lt_or_ge j (flat us m).length with h1 | h1
  · exact h1
  · simp [List.getElem?_eq_none h1] at hj
 have hsz : 0 < sz := by
  rcases Nat.eq_zero_or_pos sz with h0 | h0
  · subst h0; simp at hjl
  · exact h0
 have hi : j / sz < m := (Nat.div_lt_iff_lt_mul hsz).2 hjl
 have hd : j % sz < sz := Nat.mod_lt _ hsz
 have he : j / sz * sz + j % sz = j := by rw [Nat.mul_comm]; exact Nat.div_add_mod j sz
 have := flat_get m h (j / sz) (j % sz) hi hd
 rw [he] at this
 rw [this] at hj
 have := hc (j / sz) hi (j % sz) u hj
 rwa [he] at this
structure Elems (P : Program) (w : World) (Im : Nat → Prop) (e : TypeId) (es : List SV) (us : Nat → Value) : Prop where
 fit : ∀ v ∈ es, expand P e v = v
 rel : ∀ (i : Nat) (v : SV), es[i]? = some v → VRel P om0 w Im noTh v (us i) ∧ (us i).cells.size = P.cellsOf e
theorem Elems.size {w : World} {Im : Nat → Prop} {e : TypeId} {es : List SV} {us : Nat → Value} (h : Elems P w Im e es us) : ∀ i, i < es.length → (us i).cells.size = P.cellsOf e := fun i hi => (h.rel i es[i] (by simp [hi])).2
theorem Elems.mono {w w' : World} {Im Im' : Nat → Prop} {e : TypeId} {es : List SV} {us : Nat → Value} (h : Elems P w Im e es us) (hI : ∀ b, Im b → Im' b ∧ w'.heap[b]? = w.heap[b]?) : Elems P w' Im' e es us :=
 ⟨h.fit, fun i v hv => ⟨(h.rel i v hv).1.mono hI (fun _ _ h => h), (h.rel i v hv).2⟩⟩
theorem Elems.nil {w : World} {Im : Nat → Prop} {e : TypeId} : Elems P w Im e [] (fun _ => undef) := ⟨(fun v hv => by cases hv), (fun i v hv => by simp at hv)⟩
theorem Elems.append {w : World} {Im : Nat → Prop} {e : TypeId} {es fs : List SV} {us vs : Nat → Value} (h : Elems P w Im e es us) (h' : Elems P w Im e fs vs) :
  Elems P w Im e (es ++ fs) (fun i => if i < es.length then us i else vs (i - es.length)) := by
 refine ⟨fun v hv => ?_, fun i v hv => ?_⟩
 · rcases List.mem_append.1 hv with hv | hv
   · exact h.fit v hv
   · exact h'.fit v hv
 · by_cases hi : i < es.length
   · rw [List.getElem?_append_left hi] at hv
     simp only [if_pos hi]
     exact h.rel i v hv
   · rw [List.getElem?_append_right (by omega)] at hv
     simp only [if_neg hi]
     exact h'.rel _ v hv
theorem Elems.part {w : World} {Im : Nat → Prop} {e : TypeId} {es : List SV} {us : Nat → Value} (h : Elems P w Im e es us) (o n : Nat) : Elems P w Im e ((es.drop o).take n) (fun i => us (o + i)) := by
 refine ⟨fun v hv => h.fit v (List.mem_of_mem_drop (List.mem_of_mem_take hv)), fun i v hv => ?_⟩
 rw [List.getElem?_take] at hv
 split at hv
 · rw [List.getElem?_drop] at hv
   exact h.rel _ v hv
 · cases hv
/- What is written out as its type asks. -/
theorem fitsLeaf_free {ω' : Nat → Value} {w : World} {Im : Nat → Prop} {θ θ' : Th} {t : TypeId} {c : SV} {u : Value} (hf : fitsLeaf P t c = true) (h : VRel P ω w Im θ c u) : VRel P ω' w Im θ' c u ∧ expandLeaf P t c = c ∧ oneS c = true := by
 unfold fitsLeaf at hf
 unfold expandLeaf
 split at hf <;> first | (cases hf; done) | skip
 · rename_i hu; rw [hu]; cases h; exact ⟨.bool, rfl, rfl⟩
 · rename_i k k' n hu
   rw [hu]
   cases h
   have : k = k' := by cases k <;> cases k' <;> first | rfl | (simp [ikEq] at hf)
   subst this
   exact ⟨.int, rfl, rfl⟩
 · rename_i hu; rw [hu]; cases h with | str h => exact ⟨.str h, rfl, rfl⟩
 · rename_i e e' es hu
   rw [hu]
   have : e = e' := Nat.eq_of_beq_eq_true hf
   subst this
   cases h with
   | psl us h1 h0 h2 h3 h4 => exact ⟨.psl us h1 h0 h2 h3 h4, rfl, rfl⟩
 · rename_i hu; rw [hu]; cases h; exact ⟨.nili, rfl, rfl⟩
theorem fitsAll_expand {v : SV} : ∀ (ts : List TypeId) (cs : List SV) (j : Nat), fitsAll P ts cs = true → (∀ i, i < cs.length → cellAt v (j + i) = cs.getD i .junk) → (∀ (i : Nat) (t : TypeId) (c : SV), ts[i]? = some t → cs[i]? = some c → fitsLeaf P t c = true → expandLeaf P t c = c) → expandFrom P v ts j = cs
 | [], [], j, _, _, _ => rfl
 | t :: ts, c :: cs, j, h, hv, he => by
  simp only [fitsAll, Bool.and_eq_true] at h
  simp only [expandFrom]
  have h0 := hv 0 (by simp)
  simp only [Nat.add_zero, List.getD_cons_zero] at h0
  rw [h0, he 0 t c rfl rfl h.1]
  congr 1
  refine fitsAll_expand ts cs (j + 1) h.2 (fun i hi => ?_) (fun i t c h1 h2 => he (i + 1) t c (by simpa using h1) (by simpa using h2))
  have := hv (i + 1) (by simpa using hi)
  rw [show j + 1 + i = j + (i + 1) by omega, this]
  simp
 | [], _ :: _, _, h, _, _ => by simp [fitsAll] at h
 | _ :: _, [], _, h, _, _ => by simp [fitsAll] at h
theorem fitsAll_at : ∀ (ts : List TypeId) (cs : List SV), fitsAll P ts cs = true → ∀ (i : Nat) (c : SV), cs[i]? = some c → ∃ t, ts[i]? = some t ∧ fitsLeaf P t c = true
 | [], [], _, i, c, h => by simp at h
 | t :: ts, c :: cs, h, i, d, hd => by
  simp only [fitsAll, Bool.and_eq_true] at h
  cases i with
  | zero => simp at hd; subst hd; exact ⟨t, rfl, h.1⟩
  | succ i => exact fitsAll_at ts cs h.2 i d (by simpa using hd)
 | [], _ :: _, h, _, _, _ => by simp [fitsAll] at h
 | _ :: _, [], h, _, _, _ => by simp [fitsAll] at h
theorem expandLeaf_fits {t : TypeId} {c : SV} (hf : fitsLeaf P t c = true) : expandLeaf P t c = c ∧ oneS c = true := by
 unfold fitsLeaf at hf
 unfold expandLeaf
 split at hf <;> first | (cases hf; done) | skip
 · rename_i hu; rw [hu]; exact ⟨rfl, rfl⟩
 · rename_i k k' n hu
   rw [hu]
   have : k = k' := by cases k <;> cases k' <;> first | rfl | (simp [ikEq] at hf)
   subst this
   exact ⟨rfl, rfl⟩
 · rename_i hu; rw [hu]; exact ⟨rfl, rfl⟩
 · rename_i e e' es hu
   rw [hu]
   have : e = e' := Nat.eq_of_beq_eq_true hf
   subst this
   exact ⟨rfl, rfl⟩
 · rename_i hu; rw [hu]; exact ⟨rfl, rfl⟩
theorem fits_free {ω' : Nat → Value} {w : World} {Im : Nat → Prop} {θ θ' : Th} {t : TypeId} {v : SV} {u : Value} (hf : fits P t v = true) (h : VRel P ω w Im θ v u) : VRel P ω' w Im θ' v u ∧ expand P t v = v := by
 unfold fits at hf
 unfold expand
 cases ha : isAggT P t with
 | true =>
  rw [ha] at hf
  simp only [cond_true] at hf ⊢
  split at hf
  · rename_i cs
    cases h with
    | agg h1 h2 =>
     refine ⟨.agg h1 (fun i v u hv hu => ?_), ?_⟩
     · obtain ⟨t', _, hl⟩ := fitsAll_at _ _ hf i v hv
       exact (fitsLeaf_free hl (h2 i v u hv hu)).1
     · rw [fitsAll_expand _ cs 0 hf (fun i hi => by simp [cellAt]) (fun i t c _ _ hl => (expandLeaf_fits hl).1)]
  · cases hf
 | false =>
  rw [ha] at hf
  simp only [cond_false] at hf ⊢
  obtain ⟨h1, h2, _⟩ := fitsLeaf_free (ω' := ω') (θ' := θ') hf h
  exact ⟨h1, h2⟩
theorem sized_cells {w : World} {Im : Nat → Prop} {θ : Th} {t : TypeId} {v : SV} {u : Value} (hs : sizedS P t v = true) (h : VRel P ω w Im θ v u) : u.cells.size = P.cellsOf t := by
 unfold sizedS at hs
 cases hc : cellsS v with
 | none => simp [hc] at hs
 | some cs =>
  simp only [hc] at hs
  have := (cells_rel h hc).len
  have h2 := Nat.eq_of_beq_eq_true hs
  simp at this
  omega
theorem plainLeaf_one {t : TypeId} (h : plainLeaf P t = true) (c : SV) : oneS (expandLeaf P t c) = true := by
 unfold plainLeaf at h
 unfold expandLeaf
 split at h <;> first | (cases h; done) | rfl
theorem plainFrom_one {v : SV} : ∀ (ts : List TypeId) (j : Nat), ts.all (plainLeaf P) = true → allOne (expandFrom P v ts j) = true
 | [], _, _ => rfl
 | t :: ts, j, h => by
  simp only [List.all_cons, Bool.and_eq_true] at h
  simp only [expandFrom, allOne, Bool.and_eq_true]
  exact ⟨plainLeaf_one h.1 _, plainFrom_one ts (j + 1) h.2⟩
theorem plain_cells {w : World} {Im : Nat → Prop} {θ : Th} {t : TypeId} {v : SV} {u : Value} (hp : plainE P t = true) (he : expand P t v = v) (h : VRel P ω w Im θ v u) : (∀ c ∈ u.cells.toList, c.oneCell' = true) ∧ (isAggT P t = false → u.cells = #[u]) := by
 unfold plainE at hp
 unfold expand at he
 cases ha : isAggT P t with
 | true =>
  rw [ha] at hp he
  simp only [cond_true] at hp he
  refine ⟨?_, fun h => by cases h⟩
  have h1 := plainFrom_one (v := v) _ 0 hp
  rw [← he] at h
  have hc : cellsS (SV.agg (expandFrom P v (leaves P 40 t) 0)) = some (expandFrom P v (leaves P 40 t) 0) := by simp [cellsS, h1]
  exact (cells_rel h hc).one h1
 | false =>
  rw [ha] at hp he
  simp only [cond_false] at hp he
  have h1 := plainLeaf_one hp v
  rw [he] at h1
  have h2 := cells_one (one_of_oneS h h1)
  refine ⟨fun c hc => ?_, fun _ => h2⟩
  rw [h2] at hc
  simp at hc
  subst hc
  exact one_of_oneS h h1
/- Known by content from here on. -/
theorem frozen_app {Im : Nat → Prop} {θ : Th} {h : HpF} {ys zs : List Nat} (w : World) : (∀ b, frozenBy Im θ h ys b → frozenBy Im θ h (ys ++ zs) b ∧ w.heap[b]? = w.heap[b]?) ∧ (∀ b, frozenBy Im θ h zs b → frozenBy Im θ h (ys ++ zs) b ∧ w.heap[b]? = w.heap[b]?) := by
 refine ⟨fun b hb => ⟨?_, rfl⟩, fun b hb => ⟨?_, rfl⟩⟩
 · rcases hb with hb | ⟨y, hy, r⟩
   · exact .inl hb
   · exact .inr ⟨y, List.mem_append.2 (.inl hy), r⟩
 · rcases hb with hb | ⟨y, hy, r⟩
   · exact .inl hb
   · exact .inr ⟨y, List.mem_append.2 (.inr hy), r⟩
section
variable {w : World} {Im : Nat → Prop} {θ : Th} {h : HpF} (hr : HRel P ω w Im θ h)
include hr
theorem seq_psl {y : Nat} {e : TypeId} {es : List SV} (hy : h y = some (.seq e es)) {sz n : Nat} {u : Value} (hn : n = es.length) (hv : VRel P ω w Im θ (.qs y sz 0 n) u) : VRel P ω w (frozenBy Im θ h [y]) θ (.psl e es) u := by
 have hc := hr.at_ y _ hy
 cases hv with
 | qsnil h0 =>
  have : es = [] := List.eq_nil_of_length_eq_zero (by omega)
  subst this
  exact .psl (fun _ => undef) rfl ⟨Nat.le_refl _, by simp⟩ (fun v hv => by cases hv) (fun i v hv => by simp at hv) (fun hn => absurd rfl hn)
 | qs hθ h1 h2 =>
  rename_i b N cap
  rcases hc with ⟨_, h3⟩ | ⟨b', N', cs, T, fr, us, h3, h4, h5, h6, h7, h8, h9⟩
  · rw [h3] at hθ; cases hθ
  · rw [hθ] at h3
    simp only [Option.some.injEq, Prod.mk.injEq] at h3
    obtain ⟨rfl, rfl⟩ := h3
    refine .psl us hn.symm ⟨h2, by simp⟩ h8 (fun i v hv => ?_) (fun hne => ⟨b, 0 * sz, rfl, .inr ⟨y, by simp, _, _, hy, hθ⟩, fun i hi => ?_⟩)
    · exact (h9 i v hv).1.mono (frozenBy_up w) (fun _ _ h => h)
    · have hi' : i < es.length := by omega
      obtain ⟨g1, g2, g3⟩ := h9 i es[i] (by simp [hi'])
      refine ⟨g2, fun d c hd => ?_⟩
      have := g3 d c hd
      simp only [World.cell?, h4, Nat.zero_mul, Nat.zero_add]
      simpa using this
theorem frzLeaf_run {t : TypeId} {c : SV} {u : Value} {k : SV → List Nat → OpM} {r : SV} {ups : List (Nat × Option Chunk)} {nx : Nat} {rs : List Nat} (hv : VRel P ω w Im θ c u) (hm : mrun h (frzLeaf P t k c) = some (r, ups, nx, rs)) :
  ∃ c' ys rs', mrun h (k c' ys) = some (r, ups, nx, rs') ∧ VRel P ω w (frozenBy Im θ h ys) θ c' u := by
 unfold frzLeaf at hm
 split at hm
 · rename_i y sz l n
   split at hm
   · rename_i e hu
     simp only [mrun] at hm
     cases hy : h y with
     | none => simp [hy] at hm
     | some c =>
      simp only [hy] at hm
      cases c with
      | seq e' es =>
       simp only [] at hm
       cases hb : Nat.beq e e' && Nat.beq sz (P.cellsOf e) with
       | false => simp [hb, mrun] at hm
       | true =>
        simp only [hb, cond_true, mrun] at hm
        split at hm
        · rename_i r0 ups0 nx0 rs0 heq
          split at heq
          · rename_i hcnd
            simp only [Bool.and_eq_true, decide_eq_true_eq] at hcnd hb
            obtain ⟨rfl, hn⟩ := hcnd
            have : e = e' := Nat.eq_of_beq_eq_true hb.1
            subst this
            simp only [Option.some.injEq, Prod.mk.injEq] at hm
            obtain ⟨rfl, rfl, rfl, rfl⟩ := hm
            exact ⟨_, _, _, heq, seq_psl hr hy hn hv⟩
          · simp at heq
        · cases hm
      | cells => simp [mrun] at hm
      | loopr => simp [mrun] at hm
      | mpc => simp [mrun] at hm
      | mpb => simp [mrun] at hm
      | mpn => simp [mrun] at hm
      | mit => simp [mrun] at hm
      | sqo => simp [mrun] at hm
      | sqp => simp [mrun] at hm
      | ext => simp [mrun] at hm
   · simp [mrun] at hm
 · split at hm
   · cases hv
     exact ⟨_, _, _, hm, .psl (fun _ => undef) rfl ⟨Nat.le_refl _, by simp⟩ (fun v hv => by cases hv) (fun i v hv => by simp at hv) (fun hn => absurd rfl hn)⟩
   · simp [mrun] at hm
 · refine ⟨_, _, _, hm, ?_⟩
   unfold coerceLeaf
   split
   · cases hv
     exact .psl (fun _ => undef) rfl ⟨Nat.le_refl _, by simp⟩ (fun v hv => by cases hv) (fun i v hv => by simp at hv) (fun hn => absurd rfl hn)
   · exact hv.mono (frozenBy_up w) (fun _ _ h => h)
theorem frzL_run {k : List SV → List Nat → OpM} {r : SV} {ups : List (Nat × Option Chunk)} {nx : Nat} : ∀ (ts : List TypeId) (cs : List SV) (us : List Value) (acc : List SV) (ys : List Nat) (rs : List Nat), LRel P ω w Im θ cs us → mrun h (frzL P k ts cs acc ys) = some (r, ups, nx, rs) →
  ∃ cs' zs rs', mrun h (k (acc ++ cs') (ys ++ zs)) = some (r, ups, nx, rs') ∧ LRel P ω w (frozenBy Im θ h zs) θ cs' us
 | [], [], us, acc, ys, rs, hl, hm => by
  refine ⟨[], [], rs, by simpa [frzL] using hm, ?_⟩
  exact hl.mono (frozenBy_up w) (fun _ _ h => h)
 | t :: ts, c :: cs, us, acc, ys, rs, hl, hm => by
  cases us with
  | nil => have := hl.len; simp at this
  | cons u us =>
   simp only [frzL] at hm
   obtain ⟨c', zs, rs1, h1, h2⟩ := frzLeaf_run hr (hl.at_ 0 c u rfl rfl) hm
   have hl' : LRel P ω w Im θ cs us := ⟨by have := hl.len; simpa using this, fun i v u hv hu => hl.at_ (i + 1) v u (by simpa using hv) (by simpa using hu)⟩
   obtain ⟨cs', zs', rs2, h3, h4⟩ := frzL_run ts cs us _ _ rs1 hl' h1
   refine ⟨c' :: cs', zs ++ zs', rs2, by simpa using h3, ⟨by simpa using h4.len, fun i v u' hv hu => ?_⟩⟩
   cases i with
   | zero => simp at hv hu; subst hv; subst hu; exact h2.mono (frozen_app w).1 (fun _ _ h => h)
   | succ i => exact (h4.at_ i v u' (by simpa using hv) (by simpa using hu)).mono (frozen_app w).2 (fun _ _ h => h)
 | [], _ :: _, _, _, _, _, _, hm => by simp [frzL, mrun] at hm
 | _ :: _, [], _, _, _, _, _, hm => by simp [frzL, mrun] at hm
theorem frzM_run {t : TypeId} {v : SV} {u : Value} {k : SV → List Nat → OpM} {r : SV} {ups : List (Nat × Option Chunk)} {nx : Nat} {rs : List Nat} (hv : VRel P ω w Im θ v u) (hm : mrun h (frzM P t k v) = some (r, ups, nx, rs)) :
  ∃ v' ys rs', mrun h (k v' ys) = some (r, ups, nx, rs') ∧ VRel P om0 w (frozenBy Im θ h ys) noTh v' u ∧ expand P t v' = v' ∧ u.cells.size = P.cellsOf t ∧ fits P t v' = true := by
 have fin : ∀ (v' : SV) (ys rs : List Nat), VRel P ω w (frozenBy Im θ h ys) θ v' u → mrun h (bif fits P t v' && sizedS P t v' then k v' ys else .fail) = some (r, ups, nx, rs) →
   ∃ v' ys rs', mrun h (k v' ys) = some (r, ups, nx, rs') ∧ VRel P om0 w (frozenBy Im θ h ys) noTh v' u ∧ expand P t v' = v' ∧ u.cells.size = P.cellsOf t ∧ fits P t v' = true := by
  intro v' ys rs hv' hm
  cases hb : fits P t v' && sizedS P t v' with
  | false => simp [hb, mrun] at hm
  | true =>
   simp only [hb, cond_true] at hm
   simp only [Bool.and_eq_true] at hb
   obtain ⟨h1, h2⟩ := fits_free (ω' := om0) (θ' := noTh) hb.1 hv'
   exact ⟨v', ys, rs, hm, h1, h2, sized_cells hb.2 hv', hb.1⟩
 unfold frzM at hm
 cases ha : isAggT P t with
 | true =>
  simp only [ha, cond_true] at hm
  split at hm
  · rename_i cs
    cases hv with
    | agg h1 h2 =>
     rename_i us
     have hl : LRel P ω w Im θ cs us.toList := ⟨by simpa using h1, fun i v u hv hu => h2 i v u hv (by simpa using hu)⟩
     obtain ⟨cs', zs, rs', h3, h4⟩ := frzL_run hr _ _ _ _ _ _ hl hm
     refine fin (.agg cs') zs rs' (.agg (by simpa using h4.len) (fun i v u hv hu => h4.at_ i v u hv (by simpa using hu))) (by simpa using h3)
  · simp [mrun] at hm
 | false =>
  simp only [ha, cond_false] at hm
  obtain ⟨c', ys, rs', h1, h2⟩ := frzLeaf_run hr hv hm
  exact fin c' ys rs' h2 h1
theorem frzAll_run {t : TypeId} {k : List SV → List Nat → OpM} {r : SV} {ups : List (Nat × Option Chunk)} {nx : Nat} : ∀ (vs : List SV) (uf : Nat → Value) (acc : List SV) (ys rs : List Nat), (∀ (i : Nat) (v : SV), vs[i]? = some v → VRel P ω w Im θ v (uf i)) →
  mrun h (frzAll P t k vs acc ys) = some (r, ups, nx, rs) → ∃ vs' zs rs', mrun h (k (acc ++ vs') (ys ++ zs)) = some (r, ups, nx, rs') ∧ vs'.length = vs.length ∧ Elems P w (frozenBy Im θ h zs) t vs' uf
 | [], uf, acc, ys, rs, _, hm => ⟨[], [], rs, by simpa [frzAll] using hm, rfl, ⟨(fun v hv => by cases hv), (fun i v hv => by simp at hv)⟩⟩
 | v :: vs, uf, acc, ys, rs, hv, hm => by
  simp only [frzAll] at hm
  obtain ⟨v', zs, rs1, h1, h2, h3, h4, -⟩ := frzM_run hr (hv 0 v rfl) hm
  obtain ⟨vs', zs', rs2, h5, h6, h7⟩ := frzAll_run vs (fun i => uf (i + 1)) _ _ rs1 (fun i v hi => hv (i + 1) v (by simpa using hi)) h1
  refine ⟨v' :: vs', zs ++ zs', rs2, by simpa using h5, by simp [h6], ⟨fun x hx => ?_, fun i x hx => ?_⟩⟩
  · rcases List.mem_cons.1 hx with rfl | hx
    · exact h3
    · exact h7.fit x hx
  · cases i with
    | zero => simp at hx; subst hx; exact ⟨h2.mono (frozen_app w).1 (fun _ _ h => h), h4⟩
    | succ i =>
     obtain ⟨g1, g2⟩ := h7.rel i x (by simpa using hx)
     exact ⟨g1.mono (frozen_app w).2 (fun _ _ h => h), g2⟩
end
end Go.Am
