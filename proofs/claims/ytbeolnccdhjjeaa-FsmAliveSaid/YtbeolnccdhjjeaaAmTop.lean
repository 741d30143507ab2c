/- The abstract machine: tables of what is known of callees; closed runs. -/
import Derived.Test.YtbeolnccdhjjeaaAmBody
namespace Go.Am
variable {P : Program} {ω : Nat → Value}

def noNum (P : Program) : Prop := (P.funcs.all fun fn => !(fn.name == "runtime.NumGoroutine")) = true

theorem noNum_at (h : noNum P) {f : FuncId} {fn : Func} (hf : P.funcs[f]? = some fn) : (fn.name == "runtime.NumGoroutine") = false := by
  have := Array.all_eq_true'.1 h fn (Array.mem_of_getElem? hf)
  simpa using this

/-- What is known, callee by callee. -/
def tbl : List (Nat × CSumm) → Nat → Option CSumm
  | [], _ => none
  | (g, s) :: l, f => bif Nat.beq g f then some s else tbl l f

structure Known (P : Program) (f : FuncId) (s : CSumm) : Prop where
  fn : ∃ fn, P.funcs[f]? = some fn ∧ (fn.name == "runtime.NumGoroutine") = false ∧ fn.body.isNone = false
  ok : ValidC P f s

theorem tbl_nil : KOk P (tbl []) := ⟨(fun _ _ h => by cases h), (fun _ _ h => by cases h)⟩
theorem tbl_cons {g : Nat} {s : CSumm} {l : List (Nat × CSumm)} (h1 : Known P g s) (h2 : KOk P (tbl l)) : KOk P (tbl ((g, s) :: l)) := by
  constructor
  · intro f t ht
    simp only [tbl] at ht
    cases hb : Nat.beq g f with
    | true => rw [hb] at ht; have := Nat.eq_of_beq_eq_true hb; subst this; exact h1.fn
    | false => rw [hb] at ht; exact h2.fn f t ht
  · intro f t ht
    simp only [tbl] at ht
    cases hb : Nat.beq g f with
    | true => rw [hb] at ht; have := Nat.eq_of_beq_eq_true hb; subst this; simp at ht; subst ht; exact h1.ok
    | false => rw [hb] at ht; exact h2.ok f t ht

theorem known_of_bodyC (hn : noNum P) (hmix : P.follows .mixedOrders = true) {κ : Nat → Option CSumm} (hκ : KOk P κ) {f : FuncId} {fn : Func} (hf : P.funcs[f]? = some fn) (hb : fn.body.isNone = false) {ι : Nat → Bool} {sp : Bool} {fuel : Nat} {s : CSumm}
    (hs : ∀ args H v ups, crun (s args H) = some (v, ups) → crun (bodyC P κ ι sp fuel fn args H) = some (v, ups)) : Known P f s :=
  ⟨⟨fn, hf, noNum_at hn hf, hb⟩, fun args H v ups hr => body_valid hκ hmix hf args H v ups (hs args H v ups hr)⟩

/-- With open values: both sides of a test are reckoned where nothing is written; callees by what is known of them. -/
def inl (κ : Nat → Option CSumm) (f : Nat) : Bool := match κ f with
  | some _ => false
  | none => true
abbrev bodyS (P : Program) (κ : Nat → Option CSumm) (f : Func) : CSumm := bodyC P κ (inl κ) true 1000 f

theorem known_of_bodyS (hn : noNum P) (hmix : P.follows .mixedOrders = true) {κ : Nat → Option CSumm} (hκ : KOk P κ) {f : FuncId} {fn : Func} (hf : P.funcs[f]? = some fn) (hb : fn.body.isNone = false) {s : CSumm}
    (hs : ∀ args H v ups, crun (s args H) = some (v, ups) → crun (bodyS P κ fn args H) = some (v, ups)) : Known P f s := known_of_bodyC hn hmix hκ hf hb hs

def hasBody (P : Program) (f : Nat) : Bool := match P.funcs[f]? with
  | some fn => !fn.body.isNone
  | none => false
/-- Run the body, and all that it calls. -/
def closedS (P : Program) (fuel : Nat) : Nat → Nat → Option CSumm
  | 0, _ => none
  | n + 1, f =>
    match P.funcs[f]? with
    | some fn => bif fn.body.isNone then none else some (bodyC P (closedS P fuel n) (hasBody P) false fuel fn)
    | none => none

theorem closed_ok (hn : noNum P) (hmix : P.follows .mixedOrders = true) (fuel : Nat) : ∀ n, KOk P (closedS P fuel n) := by
  intro n
  induction n with
  | zero => exact ⟨(fun _ _ h => by cases h), (fun _ _ h => by cases h)⟩
  | succ n ih =>
    constructor
    · intro f s h
      simp only [closedS] at h
      cases hf : P.funcs[f]? with
      | none => simp [hf] at h
      | some fn =>
        simp only [hf] at h
        cases hb : fn.body.isNone with
        | true => simp [hb] at h
        | false => exact ⟨fn, rfl, noNum_at hn hf, hb⟩
    · intro f s h
      simp only [closedS] at h
      cases hf : P.funcs[f]? with
      | none => simp [hf] at h
      | some fn =>
        simp only [hf] at h
        cases hb : fn.body.isNone with
        | true => simp [hb] at h
        | false =>
          simp only [hb, cond_false, Option.some.injEq] at h
          subst h
          exact body_valid ih hmix hf

/-- A call by a table. -/
def callK (κ : Nat → Option CSumm) (f : Nat) (args : List SV) (H : HpL) : Option (SV × List (Nat × Option Chunk)) := match κ f with
  | some s => crun (s args H)
  | none => none

/-- Two tables: the first is asked first. -/
def orElseK (a b : Nat → Option CSumm) : Nat → Option CSumm := fun f => match a f with
  | some s => some s
  | none => b f
theorem orElse_ok {a b : Nat → Option CSumm} (ha : KOk P a) (hb : KOk P b) : KOk P (orElseK a b) := by
  constructor
  · intro f s h
    simp only [orElseK] at h
    cases hf : a f with
    | some s' => rw [hf] at h; cases h; exact ha.fn f _ hf
    | none => rw [hf] at h; exact hb.fn f s h
  · intro f s h
    simp only [orElseK] at h
    cases hf : a f with
    | some s' => rw [hf] at h; cases h; exact ha.ok f _ hf
    | none => rw [hf] at h; exact hb.ok f s h

end Go.Am
