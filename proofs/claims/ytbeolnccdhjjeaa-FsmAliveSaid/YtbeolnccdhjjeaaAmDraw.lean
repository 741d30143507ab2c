/- The abstract machine: a region that draws its order. -/
import Derived.Test.YtbeolnccdhjjeaaAmRegion
import Derived.Orders
import Derived.OrdersIn
namespace Go.Am
variable {P : Program} {ω : Nat → Value}

/- What stands ahead of what. -/
theorem bef1_bit {bs : List Nat} {o : Oper} {k : Nat} (h : (bef1 bs o).testBit k = true) : ∃ e ∈ o.after.toList, Region.binds .any e = true ∧ (k = e.on ∨ (bs.getD e.on 0).testBit k = true) := by
  unfold bef1 at h
  generalize o.after.toList = l at h
  have gen : ∀ (l : List Edge) (s : Nat), (l.foldl (fun s e => bif Region.binds .any e then s ||| 2 ^ e.on ||| bs.getD e.on 0 else s) s).testBit k = true → s.testBit k = true ∨ ∃ e ∈ l, Region.binds .any e = true ∧ (k = e.on ∨ (bs.getD e.on 0).testBit k = true) := by
    intro l
    induction l with
    | nil => intro s h; exact .inl h
    | cons e l ih =>
      intro s h
      rcases ih _ h with h1 | ⟨e', he', h1⟩
      · simp only [] at h1
        cases hb : Region.binds .any e with
        | false => rw [hb] at h1; exact .inl h1
        | true =>
          rw [hb] at h1
          simp only [cond_true, Nat.testBit_or, Bool.or_eq_true] at h1
          rcases h1 with (h1 | h1) | h1
          · exact .inl h1
          · rw [Nat.testBit_two_pow] at h1
            exact .inr ⟨e, by simp, hb, .inl (by have := of_decide_eq_true h1; omega)⟩
          · exact .inr ⟨e, by simp, hb, .inr h1⟩
      · exact .inr ⟨e', by simp [he'], h1⟩
  rcases gen l 0 h with h1 | h1
  · simp at h1
  · exact h1

theorem befAll_len : ∀ (os : List Oper) (bs : List Nat), (befAll os bs).length = bs.length + os.length
  | [], bs => by simp [befAll]
  | o :: os, bs => by simp only [befAll]; rw [befAll_len os]; simp; omega
theorem befAll_pre : ∀ (os : List Oper) (bs : List Nat) (i : Nat), i < bs.length → (befAll os bs)[i]? = bs[i]?
  | [], _, _, _ => rfl
  | o :: os, bs, i, h => by
    simp only [befAll]
    rw [befAll_pre os _ i (by simp; omega), List.getElem?_append_left h]
theorem befAll_at : ∀ (os : List Oper) (bs : List Nat) (i : Nat) (o : Oper), os[i]? = some o → (befAll os bs)[bs.length + i]? = some (bef1 ((befAll os bs).take (bs.length + i)) o)
  | [], _, _, _, h => by simp at h
  | o1 :: os, bs, 0, o, h => by
    simp only [List.getElem?_cons_zero, Option.some.injEq] at h
    subst h
    simp only [befAll, Nat.add_zero]
    rw [befAll_pre os _ _ (by simp)]
    have e : (befAll os (bs ++ [bef1 bs o1])).take bs.length = bs := by
      apply List.ext_getElem?
      intro j
      rw [List.getElem?_take]
      split
      · rename_i hj
        rw [befAll_pre os _ j (by simp; omega), List.getElem?_append_left hj]
      · rename_i hj
        rw [List.getElem?_eq_none (by omega)]
    rw [e]
    simp
  | o1 :: os, bs, i + 1, o, h => by
    simp only [befAll]
    have := befAll_at os (bs ++ [bef1 bs o1]) i o (by simpa using h)
    simp only [List.length_append, List.length_cons, List.length_nil] at this
    rw [show bs.length + (i + 1) = bs.length + (0 + 1) + i by omega]
    exact this

structure Static (all : List Oper) (bs : List Nat) : Prop where
  bit : ∀ (i : Nat) (o : Oper), all[i]? = some o → ∀ k, (bs.getD i 0).testBit k = true → ∃ e ∈ o.after.toList, Region.binds .any e = true ∧ (k = e.on ∨ (bs.getD e.on 0).testBit k = true)
  back : ∀ (i : Nat) (o : Oper), all[i]? = some o → ∀ e ∈ o.after.toList, Region.binds .any e = true → e.on < i
  pair : ∀ (i j : Nat) (o o' : Oper), i < j → all[i]? = some o → all[j]? = some o' → (bs.getD j 0).testBit i = true ∨ apartT all o o' = true
  guard : ∀ (i : Nat) (o : Oper) (g : Nat) (b : Bool), all[i]? = some o → o.guard = some (g, b) → (bs.getD i 0).testBit g = true

theorem staticRow_spec {all : List Oper} {b : Nat} {o : Oper} : ∀ (l : List Oper) (i : Nat), staticRow all b o l i = true → ∀ (j : Nat) (p : Oper), l[j]? = some p → b.testBit (i + j) = true ∨ apartT all p o = true
  | [], _, _, _, _, h => by simp at h
  | q :: l, i, hs, j, p, h => by
    simp only [staticRow, Bool.and_eq_true, Bool.or_eq_true] at hs
    cases j with
    | zero =>
      simp only [List.getElem?_cons_zero, Option.some.injEq] at h
      subst h
      simpa using hs.1
    | succ j =>
      have := staticRow_spec l (i + 1) hs.2 j p (by simpa using h)
      rwa [show i + 1 + j = i + (j + 1) by omega] at this

theorem staticOk_spec {all : List Oper} {bs : List Nat} : ∀ (os pre : List Oper) (j : Nat), staticOk all bs pre os j = true → pre.length = j →
    (∀ (k : Nat) (o : Oper), os[k]? = some o → (∀ e ∈ o.after.toList, Region.binds .any e = true → e.on < j + k) ∧ (∀ g b, o.guard = some (g, b) → (bs.getD (j + k) 0).testBit g = true) ∧
      (∀ (i : Nat) (p : Oper), i < j + k → (pre ++ os)[i]? = some p → (bs.getD (j + k) 0).testBit i = true ∨ apartT all p o = true))
  | [], _, _, _, _, k, o, h => by simp at h
  | o1 :: os, pre, j, hs, hl, k, o, h => by
    simp only [staticOk, Bool.and_eq_true] at hs
    obtain ⟨⟨⟨h1, h2⟩, h3⟩, h4⟩ := hs
    cases k with
    | zero =>
      simp only [List.getElem?_cons_zero, Option.some.injEq] at h
      subst h
      refine ⟨fun e he hb => ?_, fun g b hg => ?_, fun i p hi hp => ?_⟩
      · have := List.all_eq_true.1 h2 e he
        simp only [hb, Bool.not_true, Bool.false_or] at this
        rw [Nat.blt_eq] at this
        simpa using this
      · rw [hg] at h3; simpa using h3
      · have : pre[i]? = some p := by
          rw [List.getElem?_append_left (by omega)] at hp
          exact hp
        have := staticRow_spec pre 0 h1 i p this
        simpa using this
    | succ k =>
      have := staticOk_spec os (pre ++ [o1]) (j + 1) h4 (by simp [hl]) k o (by simpa using h)
      rw [show j + 1 + k = j + (k + 1) by omega] at this
      simpa using this

theorem static_of {all : List Oper} (h : staticOk all (befAll all []) [] all 0 = true) : Static all (befAll all []) := by
  have hs := staticOk_spec all [] 0 h rfl
  have hback : ∀ (i : Nat) (o : Oper), all[i]? = some o → ∀ e ∈ o.after.toList, Region.binds .any e = true → e.on < i := fun i o ho e he hb => by
    have := (hs i o ho).1 e he hb
    omega
  refine ⟨?_, hback, ?_, ?_⟩
  · intro i o ho k hk
    have hat := befAll_at all [] i o ho
    simp only [List.length_nil, Nat.zero_add] at hat
    have e1 : (befAll all []).getD i 0 = bef1 ((befAll all []).take i) o := by simp [List.getD_eq_getElem?_getD, hat]
    rw [e1] at hk
    obtain ⟨e, he, hb, h1⟩ := bef1_bit hk
    refine ⟨e, he, hb, ?_⟩
    rcases h1 with h1 | h1
    · exact .inl h1
    · right
      have hlt := hback i o ho e he hb
      rw [← h1]
      congr 1
      simp [List.getD_eq_getElem?_getD, hlt]
  · intro i j o o' hij ho ho'
    have := (hs j o' ho').2.2 i o (by omega) (by simpa using ho)
    simpa using this
  · intro i o g b ho hg
    have := (hs i o ho).2.1 g b hg
    simpa using this

theorem Static.lt {all : List Oper} {bs : List Nat} (s : Static all bs) : ∀ (i : Nat) (o : Oper), all[i]? = some o → ∀ k, (bs.getD i 0).testBit k = true → k < i := by
  intro i
  induction i using Nat.strongRecOn with
  | _ i ih =>
    intro o ho k hk
    obtain ⟨e, he, hb, h1⟩ := s.bit i o ho k hk
    have hlt := s.back i o ho e he hb
    rcases h1 with rfl | h1
    · exact hlt
    · have hilt : i < all.length := (List.getElem?_eq_some_iff.1 ho).1
      obtain ⟨o', ho'⟩ : ∃ o', all[e.on]? = some o' := ⟨all[e.on]'(by omega), by simp⟩
      have := ih e.on hlt o' ho' k h1
      omega

/- The feet. -/
def feet : Nat → List Rec → List Foot → List Foot
  | _, [], acc => acc
  | i, ρ :: l, acc => feet (i + 1) l (if ρ.ex then ⟨i, ρ.rs, ρ.ups.map (·.1)⟩ :: acc else acc)

theorem feet_spec {bs : List Nat} : ∀ (l : List Rec) (i : Nat) (acc : List Foot), footsOk bs (feet i l acc) = true → footsOk bs acc = true ∧
    (∀ (j : Nat) (ρ : Rec), l[j]? = some ρ → ρ.ex = true → ∀ g ∈ acc, (bs.getD (i + j) 0).testBit g.i = true ∨ apartF ⟨i + j, ρ.rs, ρ.ups.map (·.1)⟩ g = true) ∧
    (∀ (j k : Nat) (ρ σ : Rec), j < k → l[j]? = some ρ → l[k]? = some σ → ρ.ex = true → σ.ex = true → (bs.getD (i + k) 0).testBit (i + j) = true ∨ apartF ⟨i + k, σ.rs, σ.ups.map (·.1)⟩ ⟨i + j, ρ.rs, ρ.ups.map (·.1)⟩ = true)
  | [], i, acc, h => ⟨h, fun j ρ hj => by simp at hj, fun j k ρ σ _ hj => by simp at hj⟩
  | ρ0 :: l, i, acc, h => by
    simp only [feet] at h
    obtain ⟨h1, h2, h3⟩ := feet_spec l (i + 1) _ h
    have e : ∀ j, i + 1 + j = i + (j + 1) := fun j => by omega
    by_cases hx : ρ0.ex = true
    · simp only [hx, if_true] at h1 h2
      simp only [footsOk, Bool.and_eq_true] at h1
      refine ⟨h1.2, ?_, ?_⟩
      · intro j ρ hj hex g hg
        cases j with
        | zero =>
          simp only [List.getElem?_cons_zero, Option.some.injEq] at hj
          subst hj
          have := List.all_eq_true.1 h1.1 g hg
          simpa using this
        | succ j =>
          have := h2 j ρ (by simpa using hj) hex g (by simp [hg])
          rwa [e] at this
      · intro j k ρ σ hjk hj hk hex hex'
        cases k with
        | zero => omega
        | succ k =>
          cases j with
          | zero =>
            simp only [List.getElem?_cons_zero, Option.some.injEq] at hj
            subst hj
            have := h2 k σ (by simpa using hk) hex' ⟨i, ρ0.rs, ρ0.ups.map (·.1)⟩ (by simp)
            rwa [e] at this
          | succ j =>
            have := h3 j k ρ σ (by omega) (by simpa using hj) (by simpa using hk) hex hex'
            rwa [e, e] at this
    · simp only [hx, Bool.false_eq_true, if_false] at h1 h2
      refine ⟨h1, ?_, ?_⟩
      · intro j ρ hj hex g hg
        cases j with
        | zero =>
          simp only [List.getElem?_cons_zero, Option.some.injEq] at hj
          subst hj
          exact absurd hex hx
        | succ j =>
          have := h2 j ρ (by simpa using hj) hex g hg
          rwa [e] at this
      · intro j k ρ σ hjk hj hk hex hex'
        cases k with
        | zero => omega
        | succ k =>
          cases j with
          | zero =>
            simp only [List.getElem?_cons_zero, Option.some.injEq] at hj
            subst hj
            exact absurd hex hx
          | succ j =>
            have := h3 j k ρ σ (by omega) (by simpa using hj) (by simpa using hk) hex hex'
            rwa [e, e] at this

theorem overlap_false {a b : List Nat} (h : overlap a b = false) : ∀ x ∈ a, x ∉ b := by
  induction a with
  | nil => intro x hx; cases hx
  | cons y a ih =>
    simp only [overlap, Bool.or_eq_false_iff] at h
    intro x hx hb
    rcases List.mem_cons.1 hx with rfl | hx
    · rw [(memN_iff x b).2 hb] at h; exact absurd h.1 (by simp)
    · exact ih h.2 x hx hb

theorem apartF_spec {a b : Foot} (h : apartF a b = true) : (∀ x ∈ a.writes, x ∉ b.writes) ∧ (∀ x ∈ a.writes, x ∉ b.reads) ∧ (∀ x ∈ a.reads, x ∉ b.writes) := by
  simp only [apartF, Bool.and_eq_true, Bool.not_eq_true'] at h
  exact ⟨overlap_false h.1.1, overlap_false h.1.2, overlap_false h.2⟩

def looks (all : List Oper) (o : Oper) : List Nat := (match o.guard with
    | some (g, _) => match nth? all g with
      | some og => match og.dst with
        | some d => [d]
        | none => []
      | none => []
    | none => []) ++ tmpsOf o.op.operands.toList

theorem apartT_spec {all : List Oper} {x y : Oper} (h : apartT all x y = true) : (∀ d, x.dst = some d → d ∉ looks all y ∧ y.dst ≠ some d) ∧ (∀ d, y.dst = some d → d ∉ looks all x) := by
  simp only [apartT, Bool.and_eq_true] at h
  constructor
  · intro d hd
    have h1 := h.1
    rw [hd] at h1
    simp only [Bool.and_eq_true, Bool.not_eq_true'] at h1
    refine ⟨fun hm => ?_, fun hy => ?_⟩
    · have : memN d (looks all y) = true := (memN_iff _ _).2 hm
      rw [show memN d (looks all y) = false from h1.1] at this
      cases this
    · rw [hy] at h1
      have := h1.2
      simp only [Bool.not_eq_true'] at this
      rw [nb_t rfl] at this
      cases this
  · intro d hd hm
    have h2 := h.2
    rw [hd] at h2
    simp only [Bool.not_eq_true'] at h2
    have : memN d (looks all x) = true := (memN_iff _ _).2 hm
    rw [show memN d (looks all x) = false from h2] at this
    cases this

theorem tmpsOf_mem : ∀ {l : List Operand} {t : Nat}, .tmp t ∈ l → t ∈ tmpsOf l
  | [], _, h => by cases h
  | x :: l, t, h => by
    rcases List.mem_cons.1 h with rfl | h
    · simp [tmpsOf]
    · have ih := tmpsOf_mem h
      cases x <;> simp only [tmpsOf] <;> first | exact List.mem_cons.2 (.inr ih) | exact ih

def cnt (D : Nat → Bool) : Nat → Nat
  | 0 => 0
  | n + 1 => cnt D n + if D n then 0 else 1
theorem cnt_zero {D : Nat → Bool} : ∀ {n : Nat}, cnt D n = 0 → ∀ i, i < n → D i = true
  | 0, _, _, h => by omega
  | n + 1, h, i, hi => by
    simp only [cnt] at h
    rcases Nat.lt_succ_iff_lt_or_eq.1 hi with h1 | rfl
    · exact cnt_zero (by omega) i h1
    · cases hd : D i with
      | true => rfl
      | false => simp [hd] at h
theorem cnt_all {D : Nat → Bool} : ∀ {n : Nat}, (∀ i, i < n → D i = true) → cnt D n = 0
  | 0, _ => rfl
  | n + 1, h => by simp [cnt, h n (by omega), cnt_all (n := n) (fun i hi => h i (by omega))]
theorem cnt_le {D D' : Nat → Bool} : ∀ {n : Nat}, (∀ i, i < n → D i = true → D' i = true) → cnt D' n ≤ cnt D n
  | 0, _ => Nat.le_refl _
  | n + 1, h => by
    have ih := cnt_le (n := n) (fun i hi => h i (by omega))
    simp only [cnt]
    cases hd : D n with
    | true => simp [h n (by omega) hd]; exact ih
    | false => cases D' n <;> simp <;> omega
theorem cnt_lt {D D' : Nat → Bool} : ∀ {n i : Nat}, (∀ j, j < n → D j = true → D' j = true) → i < n → D i = false → D' i = true → cnt D' n < cnt D n
  | 0, _, _, h, _, _ => by omega
  | n + 1, i, h, hi, h1, h2 => by
    simp only [cnt]
    rcases Nat.lt_succ_iff_lt_or_eq.1 hi with h3 | rfl
    · have := cnt_lt (n := n) (fun j hj => h j (by omega)) h3 h1 h2
      cases hd : D n with
      | true => simp [h n (by omega) hd]; exact this
      | false => cases D' n <;> simp <;> omega
    · have := cnt_le (n := i) (fun j hj => h j (by omega))
      simp [h1, h2]; omega

theorem ready_iff {ops : Array Oper} {listed : Array Bool} {i : Nat} : i ∈ Region.ready .any ops listed ↔ i < ops.size ∧ listed.getD i true = false ∧ ∃ o, ops[i]? = some o ∧ ∀ e ∈ o.after, Region.binds .any e = true → listed.getD e.on false = true := by
  unfold Region.ready
  simp only [List.mem_filter, List.mem_range, Bool.and_eq_true, Bool.not_eq_true']
  constructor
  · rintro ⟨h1, h2, h3⟩
    refine ⟨h1, h2, ops[i], by simp [h1], ?_⟩
    have e : ops[i]? = some ops[i] := by simp [h1]
    rw [e] at h3
    simp only [Option.map_some, Option.getD_some, Array.all_eq_true'] at h3
    intro x hx hb
    have := h3 x hx
    simpa [hb] using this
  · rintro ⟨h1, h2, o, ho, h3⟩
    refine ⟨h1, h2, ?_⟩
    rw [ho]
    simp only [Option.map_some, Option.getD_some, Array.all_eq_true']
    intro x hx
    cases hb : Region.binds .any x with
    | false => rfl
    | true => simpa using h3 x hx hb

theorem any_sound {κ : Nat → Option CSumm} (hκ : KOk P κ) {all : List Oper} {n : Nat} {T0 T' : Nat → SV} {h0 h' : HpF} {nxs nx0 nx' : Nat} {recs : List Rec} {hs : HpF} {ws : World} {Ims : Nat → Prop} {θs : Th} {ro : Option Nat} {ds : List Deferred} {Q : Exit → Act → World → Prop}
    (ht : Txt P κ all n all T0 h0 nx0 recs T' h' nx') (hdom0 : ∀ x c, h0 x = some c → x < nx0) (hnx : nxs ≤ nx0) {bs : List Nat} (st : Static all bs) (hf : footsOk bs (feet 0 recs []) = true)
    (hQ : ∀ a' w' Im' θ', a'.defers = ds → SimF P ω n T' h' a' w' Im' θ' → Fr nx' θ' h' → nxs ≤ nx' → Ext (fun x => nxs ≤ x) hs ws Ims θs h' w' Im' θ' → Q .normal a' w') :
    ∀ (fuel : Nat) (D : Nat → Bool) (listed : Array Bool) (a : Act) (w : World) (Im : Nat → Prop) (θ : Th), cnt D all.length ≤ fuel → listed.size = all.length → (∀ i, i < all.length → listed[i]? = some (D i)) → (∀ i, all.length ≤ i → D i = false) →
      (∀ i, D i = true → ∀ k, (bs.getD i 0).testBit k = true → D k = true) → a.defers = ds → SimF P ω n (TD (all.zip recs) D 0 T0) (HD (all.zip recs) D 0 h0) a w Im θ →
      (∀ x, (θ x ≠ none ∨ HD (all.zip recs) D 0 h0 x ≠ none) → x < nx0 ∨ ∃ (j : Nat) (o : Oper) (ρ : Rec), D j = true ∧ (all.zip recs)[j]? = some (o, ρ) ∧ ρ.nx0 ≤ x ∧ x < ρ.nx1) →
      Ext (fun x => nxs ≤ x) hs ws Ims θs (HD (all.zip recs) D 0 h0) w Im θ → wpAnyIn (FR ro) 0 P .any all.toArray Q fuel listed a w := by
  obtain ⟨hlen, hnn, rfl, rfl, hfact, hord⟩ := txt_facts ht hdom0
  obtain ⟨-, -, hfeet⟩ := feet_spec recs 0 [] hf
  have hzip : ∀ i, i < all.length → ∃ o ρ, (all.zip recs)[i]? = some (o, ρ) ∧ all[i]? = some o ∧ recs[i]? = some ρ := by
    intro i hi
    refine ⟨all[i], recs[i], ?_, by simp [hi], by simp [hlen, hi]⟩
    simp [hi, hlen]
  have hzipr : ∀ (i : Nat) (o : Oper) (ρ : Rec), (all.zip recs)[i]? = some (o, ρ) → all[i]? = some o ∧ recs[i]? = some ρ ∧ i < all.length := by
    intro i o ρ h
    rw [List.getElem?_zip_eq_some] at h
    exact ⟨h.1, h.2, (List.getElem?_eq_some_iff.1 h.1).1⟩
  -- the end
  have hend : ∀ (D : Nat → Bool) (a : Act) (w : World) (Im : Nat → Prop) (θ : Th), (∀ i, i < all.length → D i = true) → a.defers = ds → SimF P ω n (TD (all.zip recs) D 0 T0) (HD (all.zip recs) D 0 h0) a w Im θ →
      (∀ x, (θ x ≠ none ∨ HD (all.zip recs) D 0 h0 x ≠ none) → x < nx0 ∨ ∃ (j : Nat) (o : Oper) (ρ : Rec), D j = true ∧ (all.zip recs)[j]? = some (o, ρ) ∧ ρ.nx0 ≤ x ∧ x < ρ.nx1) →
      Ext (fun x => nxs ≤ x) hs ws Ims θs (HD (all.zip recs) D 0 h0) w Im θ → Q .normal a w := by
    intro D a w Im θ hall hdf hS hfr hE
    have eT : TD (all.zip recs) D 0 T0 = TD (all.zip recs) (fun _ => true) 0 T0 := by
      funext t
      refine TD_congr _ _ _ 0 _ _ t rfl (fun j o ρ hj _ => ?_)
      simp only [Nat.zero_add]
      exact hall j (hzipr j o ρ hj).2.2
    have eH : HD (all.zip recs) D 0 h0 = HD (all.zip recs) (fun _ => true) 0 h0 := by
      funext x
      refine HD_congr _ _ _ 0 _ _ x rfl (fun j o ρ hj _ => ?_)
      simp only [Nat.zero_add]
      exact hall j (hzipr j o ρ hj).2.2
    rw [eT, eH] at hS
    rw [eH] at hE hfr
    refine hQ a w Im θ hdf hS (fun x hx => ?_) (by omega) hE
    constructor
    · cases hθ : θ x with
      | none => rfl
      | some p =>
        rcases hfr x (.inl (by simp [hθ])) with h1 | ⟨j, o, ρ, -, hj, h1, h2⟩
        · omega
        · have := (hfact j o ρ hj).hi; omega
    · cases hh : HD (all.zip recs) (fun _ => true) 0 h0 x with
      | none => rfl
      | some p =>
        rcases hfr x (.inr (by simp [hh])) with h1 | ⟨j, o, ρ, -, hj, h1, h2⟩
        · omega
        · have := (hfact j o ρ hj).hi; omega
  -- where nothing is ready all is done
  have hdone : ∀ (D : Nat → Bool) (listed : Array Bool), listed.size = all.length → (∀ i, i < all.length → listed[i]? = some (D i)) → Region.ready .any all.toArray listed = [] → ∀ i, i < all.length → D i = true := by
    intro D listed hsz hl hr i
    induction i using Nat.strongRecOn with
    | _ i ih =>
      intro hi
      cases hd : D i with
      | true => rfl
      | false =>
        have : i ∈ Region.ready .any all.toArray listed := by
          rw [ready_iff]
          obtain ⟨o, ρ, -, ho, -⟩ := hzip i hi
          refine ⟨by simpa using hi, by simp [Array.getD_eq_getD_getElem?, hl i hi, hd], o, by simpa using ho, fun e he hb => ?_⟩
          have hlt := st.back i o ho e (by simpa using he) hb
          simp [Array.getD_eq_getD_getElem?, hl e.on (by omega), ih e.on hlt (by omega)]
        rw [hr] at this
        cases this
  intro fuel
  induction fuel with
  | zero =>
    intro D listed a w Im θ hc hsz hl hout hcl hdf hS hfr hE
    have hall := cnt_zero (Nat.le_zero.1 hc)
    refine ⟨?_, hend D a w Im θ hall hdf hS hfr hE⟩
    cases hr : Region.ready .any all.toArray listed with
    | nil => rfl
    | cons i l =>
      have hm : i ∈ Region.ready .any all.toArray listed := by rw [hr]; simp
      rw [ready_iff] at hm
      obtain ⟨h1, h2, -⟩ := hm
      have h1' : i < all.length := by simpa using h1
      simp [Array.getD_eq_getD_getElem?, hl i h1', hall i h1'] at h2
  | succ fuel ih =>
    intro D listed a w Im θ hc hsz hl hout hcl hdf hS hfr hE
    refine ⟨fun hr => hend D a w Im θ (hdone D listed hsz hl hr) hdf hS hfr hE, fun i hi => ?_⟩
    rw [ready_iff] at hi
    obtain ⟨hi1, hi2, o, ho, hedges⟩ := hi
    have hin : i < all.length := by simpa using hi1
    have hDi : D i = false := by simpa [Array.getD_eq_getD_getElem?, hl i hin] using hi2
    obtain ⟨o', ρ, hz, ho', hρ⟩ := hzip i hin
    have : o' = o := by
      have h1 : all.toArray[i]? = some o' := by simpa using ho'
      rw [h1] at ho; exact Option.some.inj ho
    subst this
    have f := hfact i o' ρ hz
    -- what stands ahead is done
    have hpre : ∀ k, (bs.getD i 0).testBit k = true → D k = true := by
      intro k hk
      obtain ⟨e, he, hb, h1⟩ := st.bit i o' ho' k hk
      have hlt := st.back i o' ho' e he hb
      have hon := hedges e (by simpa using he) hb
      have hDe : D e.on = true := by simpa [Array.getD_eq_getD_getElem?, hl e.on (by omega)] using hon
      rcases h1 with rfl | h1
      · exact hDe
      · exact hcl e.on hDe k h1
    have hpost : ∀ j, D j = true → (bs.getD j 0).testBit i = true → False := by
      intro j hj hb
      rw [hcl j hj i hb] at hDi; cases hDi
    -- where a place is met by this one, the others agree with the order of the text
    have agree : ∀ (j : Nat) (o2 : Oper) (ρ2 : Rec), (all.zip recs)[j]? = some (o2, ρ2) → j ≠ i → (j < i → (bs.getD i 0).testBit j = true ∨ D j = upTo i j) → (i < j → (bs.getD j 0).testBit i = true ∨ D j = upTo i j) → D j = upTo i j := by
      intro j o2 ρ2 hj hne h1 h2
      rcases Nat.lt_or_gt_of_ne hne with hlt | hgt
      · rcases h1 hlt with h | h
        · rw [hpre j h, upTo_iff.2 hlt]
        · exact h
      · rcases h2 hgt with h | h
        · have : D j = false := by
            cases hd : D j with
            | false => rfl
            | true => exact (hpost j hd h).elim
          rw [this, upTo_false.2 (by omega)]
        · exact h
    have aT : ∀ t ∈ looks all o', TD (all.zip recs) D 0 T0 t = TD (all.zip recs) (upTo i) 0 T0 t := by
      intro t htl
      refine TD_congr _ _ _ 0 _ _ t rfl (fun j o2 ρ2 hj hd => ?_)
      simp only [Nat.zero_add]
      obtain ⟨g1, g2, g3⟩ := hzipr j o2 ρ2 hj
      by_cases hji : j = i
      · subst hji; rw [hDi, upTo_false.2 (by omega)]
      · refine agree j o2 ρ2 hj hji (fun hlt => ?_) (fun hgt => ?_)
        · rcases st.pair j i o2 o' hlt g1 ho' with h | h
          · exact .inl h
          · exact absurd htl ((apartT_spec h).1 t hd).1
        · rcases st.pair i j o' o2 hgt ho' g1 with h | h
          · exact .inl h
          · exact absurd htl ((apartT_spec h).2 t hd)
    have aH : ρ.ex = true → ∀ x, (x ∈ ρ.rs ∨ x ∈ ρ.ups.map (·.1)) → HD (all.zip recs) D 0 h0 x = HD (all.zip recs) (upTo i) 0 h0 x := by
      intro hex x hx
      refine HD_congr _ _ _ 0 _ _ x rfl (fun j o2 ρ2 hj hk => ?_)
      simp only [Nat.zero_add]
      obtain ⟨g1, g2, g3⟩ := hzipr j o2 ρ2 hj
      have hex2 : ρ2.ex = true := by
        cases he : ρ2.ex with
        | true => rfl
        | false => rw [((hfact j o2 ρ2 hj).idle he).2.1] at hk; cases hk
      by_cases hji : j = i
      · subst hji; rw [hDi, upTo_false.2 (by omega)]
      · refine agree j o2 ρ2 hj hji (fun hlt => ?_) (fun hgt => ?_)
        · have := hfeet j i ρ2 ρ hlt g2 hρ hex2 hex
          simp only [Nat.zero_add] at this
          rcases this with h | h
          · exact .inl h
          · obtain ⟨w1, w2, w3⟩ := apartF_spec h
            rcases hx with hx | hx
            · exact absurd hk (w3 x hx)
            · exact absurd hk (w1 x hx)
        · have := hfeet i j ρ ρ2 hgt hρ g2 hex hex2
          simp only [Nat.zero_add] at this
          rcases this with h | h
          · exact .inl h
          · obtain ⟨w1, w2, w3⟩ := apartF_spec h
            rcases hx with hx | hx
            · exact absurd hx (w2 x hk)
            · exact absurd hx (w1 x hk)
    have hcl' : ∀ j, (D j || j == i) = true → ∀ k, (bs.getD j 0).testBit k = true → (D k || k == i) = true := by
      intro j hj k hk
      simp only [Bool.or_eq_true, beq_iff_eq] at hj ⊢
      rcases hj with hj | rfl
      · exact .inl (hcl j hj k hk)
      · exact .inl (hpre k hk)
    have hcnt : cnt (fun j => D j || j == i) all.length ≤ fuel := by
      have := cnt_lt (D := D) (D' := fun j => D j || j == i) (n := all.length) (i := i) (fun j _ hj => by simp [hj]) hin hDi (by simp)
      omega
    have hl' : ∀ j, j < all.length → (listed.setIfInBounds i true)[j]? = some (D j || j == i) := by
      intro j hj
      rw [Array.getElem?_setIfInBounds]
      by_cases hij : i = j
      · subst hij; simp [hsz, hj]
      · have : (j == i) = false := by simpa using Ne.symm hij
        simp [hij, hl j hj, this]
    have hout' : ∀ j, all.length ≤ j → (D j || j == i) = false := by
      intro j hj
      simp [hout j hj]; omega
    have hTadd : TD (all.zip recs) (fun j => D j || j == i) 0 T0 = updT (TD (all.zip recs) D 0 T0) o'.dst ρ.r := by
      have := TD_add (all.zip recs) D 0 i T0 o' ρ hz (by simpa using hDi) (fun j o2 ρ2 hij hj hDj d hd => by
        simp only [Nat.zero_add] at hDj
        obtain ⟨g1, -, -⟩ := hzipr j o2 ρ2 hj
        rcases st.pair i j o' o2 hij ho' g1 with h | h
        · exact (hpost j hDj h).elim
        · exact ((apartT_spec h).1 d hd).2)
      simpa using this
    have hHadd : HD (all.zip recs) (fun j => D j || j == i) 0 h0 = updF ρ.ups (HD (all.zip recs) D 0 h0) := by
      have := HD_add (all.zip recs) D 0 i h0 o' ρ hz (by simpa using hDi) (fun j o2 ρ2 hij hj hDj x hx hx2 => by
        simp only [Nat.zero_add] at hDj
        obtain ⟨g1, g2, -⟩ := hzipr j o2 ρ2 hj
        have hex : ρ.ex = true := by
          cases he : ρ.ex with
          | true => rfl
          | false => rw [(f.idle he).2.1] at hx; cases hx
        have hex2 : ρ2.ex = true := by
          cases he : ρ2.ex with
          | true => rfl
          | false => rw [((hfact j o2 ρ2 hj).idle he).2.1] at hx2; cases hx2
        have := hfeet i j ρ ρ2 hij hρ g2 hex hex2
        simp only [Nat.zero_add] at this
        rcases this with h | h
        · exact hpost j hDj h
        · exact (apartF_spec h).1 x hx2 hx)
      simpa using this
    have hwT : wantedT all n (TD (all.zip recs) D 0 T0) o' = some ρ.ex := by
      rw [← f.want]
      unfold wantedT
      cases hg : o'.guard with
      | none => rfl
      | some p =>
        obtain ⟨g, b⟩ := p
        simp only []
        cases hag : all[g]? with
        | none => rfl
        | some og =>
          simp only []
          cases hod : og.dst with
          | none => rfl
          | some d =>
            simp only []
            rw [aT d (by simp [looks, hg, nth?_eq, hag, hod])]
    unfold wpOpIn
    simp only [List.getElem?_toArray, ho']
    rw [wanted_eq hS hwT]
    cases hex : ρ.ex with
    | false =>
      simp only [Bool.false_eq_true, if_false]
      obtain ⟨e1, e2, -, -⟩ := f.idle hex
      rw [e1] at hTadd
      rw [e2] at hHadd
      simp only [updF] at hHadd
      refine ⟨fun f _ => FR_fn ro f, ih (fun j => D j || j == i) _ _ w Im θ hcnt (by simpa using hsz) hl' hout' hcl' (by rw [put_defers]; exact hdf) ?_ ?_ ?_⟩
      · rw [hTadd, hHadd]; exact hS.skip f.dst
      · rw [hHadd]
        intro x hx
        rcases hfr x hx with h1 | ⟨j, o2, ρ2, hj, h2⟩
        · exact .inl h1
        · exact .inr ⟨j, o2, ρ2, by simp [hj], h2⟩
      · rw [hHadd]; exact hE
    | true =>
      simp only [if_true]
      have hrun := f.run hex
      have hrun1 : mrun (HD (all.zip recs) D 0 h0) (opM P κ o' (evT (TD (all.zip recs) D 0 T0)) ρ.nx0) = some (ρ.r, ρ.ups, ρ.nx1, ρ.rs) := by
        have e : opM P κ o' (evT (TD (all.zip recs) D 0 T0)) ρ.nx0 = opM P κ o' (evT (TD (all.zip recs) (upTo i) 0 T0)) ρ.nx0 := by
          refine opM_congr (fun x hx => ?_) _
          cases x with
          | tmp t =>
            simp only [evT]
            exact aT t (by simp only [looks, List.mem_append]; exact .inr (tmpsOf_mem (by simpa using hx)))
          | _ => rfl
        rw [e]
        exact mrun_congr _ _ hrun (fun x hx => aH hex x (.inl hx))
      obtain ⟨hle, hkeys⟩ := opM_wf hrun
      have hfresh : ∀ x, ρ.nx0 ≤ x → x < ρ.nx1 → θ x = none ∧ HD (all.zip recs) D 0 h0 x = none := by
        intro x h1 h2
        have key : ¬ (θ x ≠ none ∨ HD (all.zip recs) D 0 h0 x ≠ none) := by
          intro hh
          rcases hfr x hh with h3 | ⟨j, o2, ρ2, hj, hj2, h3, h4⟩
          · have := f.lo; omega
          · rcases Nat.lt_trichotomy i j with h5 | h5 | h5
            · have := hord i j o' ρ o2 ρ2 h5 hz hj2; omega
            · subst h5; rw [hDi] at hj; cases hj
            · have := hord j i o2 ρ2 o' ρ h5 hj2 hz; omega
        constructor
        · cases hθ : θ x with
          | none => rfl
          | some p => exact (key (.inl (by simp [hθ]))).elim
        · cases hθ : HD (all.zip recs) D 0 h0 x with
          | none => rfl
          | some p => exact (key (.inr (by simp [hθ]))).elim
      refine op_good hκ hS.hp (fun x _ => hS.eval x) hfresh hrun1 ro _ _ (fun v w' Im' θ' hE' hv hH => ?_)
      have hS' := hS.step f.dst hE' hv hH
      refine ih (fun j => D j || j == i) _ _ w' Im' θ' hcnt (by simpa using hsz) hl' hout' hcl' (by rw [put_defers]; exact hdf) ?_ ?_ ?_
      · rw [hTadd, hHadd]; exact hS'
      · rw [hHadd]
        intro x hx
        by_cases hnew : ρ.nx0 ≤ x ∧ x < ρ.nx1
        · exact .inr ⟨i, o', ρ, by simp, hz, hnew.1, hnew.2⟩
        · have hx' : θ x ≠ none ∨ HD (all.zip recs) D 0 h0 x ≠ none := by
            rcases hx with hx | hx
            · rw [hE'.thOld x hnew] at hx; exact .inl hx
            · right
              by_cases hxk : x ∈ ρ.ups.map (·.1)
              · obtain ⟨p, hp, rfl⟩ := List.mem_map.1 hxk
                rcases hkeys p hp with h1 | h1
                · obtain ⟨c, hc⟩ := mrun_reads _ _ hrun1 p.1 h1
                  simp [hc]
                · exact absurd h1 hnew
              · rwa [updF_not hxk] at hx
          rcases hfr x hx' with h1 | ⟨j, o2, ρ2, hj, h2⟩
          · exact .inl h1
          · exact .inr ⟨j, o2, ρ2, by simp [hj], h2⟩
      · rw [hHadd]
        exact hE.trans (hE'.mono (fun x hx => by have := f.lo; omega))

end Go.Am
