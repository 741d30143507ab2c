/- The abstract machine: a round of a range over a function. -/
import Derived.Test.YtbeolnccdhjjeaaAmExec
namespace Go.Am
variable {P : Program} {ω : Nat → Value}

theorem listOfTr_get (s : St) : ∀ (n i j : Nat), (listOfTr s n i)[j]? = if j < n then some (s.tmp (i + j)) else none
  | 0, i, j => by simp [listOfTr]
  | n + 1, i, j => by
    cases j with
    | zero => simp [listOfTr]
    | succ j =>
      simp only [listOfTr, List.getElem?_cons_succ]
      rw [listOfTr_get s n (i + 1) j]
      have : i + 1 + j = i + (j + 1) := by omega
      rw [this]
      simp only [Nat.add_lt_add_iff_right]
theorem listOfTr_len (s : St) : ∀ (n i : Nat), (listOfTr s n i).length = n
  | 0, _ => rfl
  | n + 1, i => by simp [listOfTr, listOfTr_len s n (i + 1)]

/-- A frame's temporaries, as a list. -/
theorem list_rel {s : St} {a : Act} {w : World} {Im : Nat → Prop} {θ : Th} {h : HpF} (hS : SimF P ω s.size s.tmp h a w Im θ) : LRel P ω w Im θ (listOfTr s s.size 0) a.tmps.toList := by
  refine ⟨by rw [listOfTr_len]; simp [hS.size], fun i v u hv hu => ?_⟩
  rw [listOfTr_get] at hv
  split at hv
  · rename_i hi
    simp only [Nat.zero_add, Option.some.injEq] at hv
    subst hv
    have := hS.tm i hi
    have e : a.tmps.getD i undef = u := by
      simp only [Array.getElem?_toList] at hu
      simp [Array.getD_eq_getD_getElem?, hu]
    rwa [e] at this
  · cases hv

def setL : List Nat → List Value → Array Value → Array Value
  | p :: ps, u :: us, a => setL ps us (a.setIfInBounds p u)
  | _, _, a => a
theorem setL_eq (ps : Array Nat) (us : Array Value) (a : Array Value) : (ps.zip us).foldl (fun tmps (t, a) => tmps.setIfInBounds t a) a = setL ps.toList us.toList a := by
  rw [← Array.foldl_toList]
  rw [Array.toList_zip]
  generalize ps.toList = l
  generalize us.toList = m
  induction l generalizing m a with
  | nil => simp [setL]
  | cons p l ih =>
    cases m with
    | nil => simp [setL]
    | cons u m => simp [setL, ih]

theorem setPs_rel {n : Nat} (hn : n < 16000) {w : World} {Im : Nat → Prop} {θ : Th} : ∀ (ps : List Nat) (vs : List SV) (us : List Value) (t : Tr SV) (a : Array Value), lowB n ps = true → ps.length = vs.length → LRel P ω w Im θ vs us →
    a.size = n → (∀ j, j < n → VRel P ω w Im θ (match t.get j with
      | some v => v
      | none => .junk) (a.getD j undef)) → (∀ j, n ≤ j → t.get j = none) →
    (setL ps us a).size = n ∧ (∀ j, j < n → VRel P ω w Im θ (match (setPs ps vs t).get j with
      | some v => v
      | none => .junk) ((setL ps us a).getD j undef)) ∧ ∀ j, n ≤ j → (setPs ps vs t).get j = none
  | [], vs, us, t, a, _, _, _, hs, h1, h2 => by
    have e1 : setPs [] vs t = t := by cases vs <;> rfl
    have e2 : setL [] us a = a := by cases us <;> rfl
    rw [e1, e2]
    exact ⟨hs, h1, h2⟩
  | p :: ps, [], us, t, a, _, hlen, _, _, _, _ => by simp at hlen
  | p :: ps, v :: vs, us, t, a, hlow, hlen, hl, hs, h1, h2 => by
    cases us with
    | nil => have := hl.len; simp at this
    | cons u us =>
      simp only [lowB, Bool.and_eq_true] at hlow
      have hp : p < n := by have := hlow.1; rwa [Nat.blt_eq] at this
      simp only [setPs, setL]
      refine setPs_rel hn ps vs us _ _ hlow.2 (by simpa using hlen) ⟨by have := hl.len; simpa using this, fun i x y hx hy => hl.at_ (i + 1) x y (by simpa using hx) (by simpa using hy)⟩ (by simpa using hs) (fun j hj => ?_) (fun j hj => ?_)
      · rw [Tr.get_set 14 t p (some v) j (by omega)]
        by_cases e : j = p
        · subst e
          have : j < a.size := by omega
          simp only [if_pos, Array.getD_eq_getD_getElem?, Array.getElem?_setIfInBounds, this, Option.getD_some]
          exact hl.at_ 0 v u rfl rfl
        · have := h1 j hj
          rw [if_neg e]
          have e2 : (a.setIfInBounds p u).getD j undef = a.getD j undef := by
            simp [Array.getD_eq_getD_getElem?, Ne.symm e]
          rw [e2]; exact this
      · rw [Tr.get_set 14 t p (some v) j (by omega), if_neg (by omega)]
        exact h2 j hj

/-- A round's frame. -/
theorem round_sim {s : St} (hs : StOk s) {x b N : Nat} {w : World} {Im : Nat → Prop} {θ : Th} (hr : HRel P ω w Im θ s.hp.get) (hf : Fr s.nx θ s.hp.get) (hθ : θ x = some (b, N)) {vs args : List SV} {us : List Value} {tmps : Array Value} {ps : Array Nat}
    (h1 : ps.size = args.length) (h2 : lowB vs.length ps.toList = true) (h3 : vs.length < 16000) (hv : LRel P ω w Im θ vs tmps.toList) (hl : LRel P ω w Im θ args us) :
    StOk { s with tm := setPs ps.toList args (argsTr vs 0 .lf), size := vs.length, rd := some x } ∧
    Sim P ω (some b) { s with tm := setPs ps.toList args (argsTr vs 0 .lf), size := vs.length, rd := some x } { tmps := (ps.zip us.toArray).foldl (fun tmps (t, a) => tmps.setIfInBounds t a) tmps, defers := [] } w Im θ := by
  have hsz : tmps.size = vs.length := by have := hv.len; simp at this; omega
  obtain ⟨k1, k2, k3⟩ := setPs_rel (P := P) h3 ps.toList args us (argsTr vs 0 .lf) tmps h2 (by simpa using h1) hl hsz (fun j hj => by
    rw [argsTr_get vs 0 .lf j (by omega), if_pos (by omega)]
    have e : vs[j - 0]? = some vs[j] := by simp [hj]
    rw [e]
    refine hv.at_ j _ _ (by simp [hj]) ?_
    have : j < tmps.size := by omega
    simp [Array.getD_eq_getD_getElem?, this]) (fun j hj => by
    rw [argsTr_get vs 0 .lf j (by omega), if_neg (by omega)]; rfl)
  have hok : StOk { s with tm := setPs ps.toList args (argsTr vs 0 .lf), size := vs.length, rd := some x } := by
    refine ⟨h3, hs.nx, fun t ht => ?_, hs.dom, hs.m⟩
    have ht' : vs.length ≤ t := ht
    simp only [St.tmp]
    rw [k3 t ht']
  refine ⟨hok, hok, ⟨?_, ?_, hok.out, Mk.nil, hr⟩, hf, .inr ⟨x, b, N, rfl, hθ, rfl⟩⟩
  · show ((ps.zip us.toArray).foldl (fun tmps (t, a) => tmps.setIfInBounds t a) tmps).size = _
    rw [setL_eq]; exact k1
  · intro t ht
    show VRel P ω w Im θ _ (((ps.zip us.toArray).foldl (fun tmps (t, a) => tmps.setIfInBounds t a) tmps).getD t undef)
    rw [setL_eq]
    exact k2 t ht
end Go.Am
