/- The abstract machine: closed runs in parts: what single calls came to, by their arguments. -/
import Derived.Test.YtbeolnccdhjjeaaAmPost
namespace Go.Am
variable {P : Program}

def eqB : List UInt8 → List UInt8 → Bool
  | [], [] => true
  | a :: l, b :: m => Nat.beq a.toNat b.toNat && eqB l m
  | _, _ => false
theorem eqB_eq : ∀ {l m : List UInt8}, eqB l m = true → l = m
  | [], [], _ => rfl
  | [], _ :: _, h => by cases h
  | _ :: _, [], h => by cases h
  | a :: l, b :: m, h => by
    simp only [eqB, Bool.and_eq_true] at h
    rw [eqB_eq h.2, UInt8.toNat_inj.1 (Nat.eq_of_beq_eq_true h.1)]
mutual
def eqSV : SV → SV → Bool
  | .junk, .junk => true
  | .bool a, .bool b => a == b
  | .int k a, .int k' b => ikEq k k' && (a == b)
  | .str a, .str b => eqB a b
  | .ptr a b, .ptr c d => Nat.beq a c && Nat.beq b d
  | .nilp, .nilp => true
  | .sl a b c d, .sl a' b' c' d' => Nat.beq a a' && Nat.beq b b' && Nat.beq c c' && Nat.beq d d'
  | .nils, .nils => true
  | .psl e es, .psl e' es' => Nat.beq e e' && eqLS es es'
  | .pnn e es, .pnn e' es' => Nat.beq e e' && eqLS es es'
  | .emp, .emp => true
  | .qs a b c d, .qs a' b' c' d' => Nat.beq a a' && Nat.beq b b' && Nat.beq c c' && Nat.beq d d'
  | .qp a b c d, .qp a' b' c' d' => Nat.beq a a' && Nat.beq b b' && Nat.beq c c' && Nat.beq d d'
  | .mp a, .mp b => Nat.beq a b
  | .nilm, .nilm => true
  | .fn (.func f) a b, .fn (.func g) c d => Nat.beq f g && eqLS a c && eqLS b d
  | .nilf, .nilf => true
  | .iface t v, .iface t' v' => Nat.beq t t' && eqSV v v'
  | .nili, .nili => true
  | .agg a, .agg b => eqLS a b
  | .tup a, .tup b => eqLS a b
  | _, _ => false
def eqLS : List SV → List SV → Bool
  | [], [] => true
  | a :: l, b :: m => eqSV a b && eqLS l m
  | _, _ => false
end
mutual
theorem eqSV_eq : ∀ {a b : SV}, eqSV a b = true → a = b
  | .junk, b, h => by cases b <;> first | rfl | cases h
  | .opq _, b, h => by cases b <;> cases h
  | .bool x, b, h => by cases b <;> simp [eqSV] at h; rw [h]
  | .int k x, b, h => by cases b <;> simp [eqSV] at h; rw [ikEq_eq h.1, h.2]
  | .str x, b, h => by cases b <;> simp [eqSV] at h; rw [eqB_eq h]
  | .ptr _ _, b, h => by cases b <;> simp [eqSV] at h; rw [h.1, h.2]
  | .nilp, b, h => by cases b <;> first | rfl | cases h
  | .pel _ _, b, h => by cases b <;> cases h
  | .sl _ _ _ _, b, h => by cases b <;> simp [eqSV] at h; obtain ⟨⟨⟨rfl, rfl⟩, rfl⟩, rfl⟩ := h; rfl
  | .nils, b, h => by cases b <;> first | rfl | cases h
  | .psl _ es, b, h => by cases b <;> simp [eqSV] at h; rw [h.1, eqLS_eq h.2]
  | .pnn _ es, b, h => by cases b <;> simp [eqSV] at h; rw [h.1, eqLS_eq h.2]
  | .emp, b, h => by cases b <;> first | rfl | cases h
  | .qs _ _ _ _, b, h => by cases b <;> simp [eqSV] at h; obtain ⟨⟨⟨rfl, rfl⟩, rfl⟩, rfl⟩ := h; rfl
  | .qp _ _ _ _, b, h => by cases b <;> simp [eqSV] at h; obtain ⟨⟨⟨rfl, rfl⟩, rfl⟩, rfl⟩ := h; rfl
  | .mp _, b, h => by cases b <;> simp [eqSV] at h; rw [h]
  | .nilm, b, h => by cases b <;> first | rfl | cases h
  | .yl _, b, h => by cases b <;> cases h
  | .fn f x y, b, h => by
    cases b
    case fn g u v =>
      cases f <;> cases g <;> simp [eqSV] at h
      obtain ⟨⟨rfl, h1⟩, h2⟩ := h
      rw [eqLS_eq h1, eqLS_eq h2]
    all_goals (cases f <;> cases h)
  | .nilf, b, h => by cases b <;> first | rfl | cases h
  | .iface _ v, b, h => by cases b <;> simp [eqSV] at h; rw [h.1, eqSV_eq h.2]
  | .nili, b, h => by cases b <;> first | rfl | cases h
  | .agg a, b, h => by cases b <;> simp [eqSV] at h; rw [eqLS_eq h]
  | .tup a, b, h => by cases b <;> simp [eqSV] at h; rw [eqLS_eq h]
theorem eqLS_eq : ∀ {a b : List SV}, eqLS a b = true → a = b
  | [], [], _ => rfl
  | [], _ :: _, h => by cases h
  | _ :: _, [], h => by cases h
  | a :: l, b :: m, h => by
    simp only [eqLS, Bool.and_eq_true] at h
    rw [eqSV_eq h.1, eqLS_eq h.2]
end
def eqCh : Chunk → Chunk → Bool
  | .cells T a, .cells T' b => Nat.beq T T' && eqLS a b
  | .seq T a, .seq T' b => Nat.beq T T' && eqLS a b
  | .mpc a b, .mpc a' b' => eqLS a a' && eqLS b b'
  | _, _ => false
theorem eqCh_eq {a b : Chunk} (h : eqCh a b = true) : a = b := by
  cases a <;> cases b <;> simp [eqCh] at h
  · rw [h.1, eqLS_eq h.2]
  · rw [h.1, eqLS_eq h.2]
  · rw [eqLS_eq h.1, eqLS_eq h.2]
def eqHp : HpL → HpL → Bool
  | [], [] => true
  | (x, c) :: l, (y, d) :: m => Nat.beq x y && eqCh c d && eqHp l m
  | _, _ => false
theorem eqHp_eq : ∀ {a b : HpL}, eqHp a b = true → a = b
  | [], [], _ => rfl
  | [], _ :: _, h => by cases h
  | _ :: _, [], h => by cases h
  | (x, c) :: l, (y, d) :: m, h => by
    simp only [eqHp, Bool.and_eq_true] at h
    rw [Nat.eq_of_beq_eq_true h.1.1, eqCh_eq h.1.2, eqHp_eq h.2]

/-- A call, with what it came to. -/
structure MEnt where
  args : List SV
  H : HpL
  v : SV
  ups : List (Nat × Option Chunk)
def memoS : List MEnt → CSumm
  | [], _, _ => .fail
  | m :: l, args, H => bif eqLS m.args args && eqHp m.H H then .ret m.v m.ups else memoS l args H

def ranOk (κ : Nat → Option CSumm) (f : Nat) : List MEnt → Prop
  | [] => True
  | m :: l => callK κ f m.args m.H = some (m.v, m.ups) ∧ ranOk κ f l

theorem memo_valid {κ : Nat → Option CSumm} (hκ : KOk P κ) {f : Nat} : ∀ {l : List MEnt}, ranOk κ f l → ValidC P f (memoS l)
  | [], _ => fun args H v ups hr => by cases hr
  | m :: l, h => by
    intro args H v ups hr
    simp only [memoS] at hr
    cases hb : eqLS m.args args && eqHp m.H H with
    | false => rw [hb] at hr; exact memo_valid hκ h.2 args H v ups hr
    | true =>
      rw [hb] at hr
      simp only [Bool.and_eq_true] at hb
      obtain rfl := eqLS_eq hb.1
      obtain rfl := eqHp_eq hb.2
      simp only [cond_true, crun, Option.some.injEq, Prod.mk.injEq] at hr
      obtain ⟨rfl, rfl⟩ := hr
      have hc := h.1
      simp only [callK] at hc
      cases hk : κ f with
      | none => rw [hk] at hc; cases hc
      | some s =>
        rw [hk] at hc
        exact hκ.ok f s hk _ _ _ _ hc
theorem known_memo {κ : Nat → Option CSumm} (hκ : KOk P κ) (hn : noNum P) {f : Nat} {fn : Func} (hf : P.funcs[f]? = some fn) (hb : fn.body.isNone = false) {l : List MEnt} (h : ranOk κ f l) : Known P f (memoS l) :=
  ⟨⟨fn, hf, noNum_at hn hf, hb⟩, memo_valid hκ h⟩

/-- Run the body, and all that it calls, but for what is known. -/
def closedT (P : Program) (T : Nat → Option CSumm) (fuel : Nat) : Nat → Nat → Option CSumm
  | 0, f => T f
  | n + 1, f =>
    match T f with
    | some s => some s
    | none => match P.funcs[f]? with
      | some fn => bif fn.body.isNone then none else some (bodyC P (closedT P T fuel n) (fun g => inl T g && hasBody P g) false fuel fn)
      | none => none

theorem closedT_ok (hn : noNum P) (hmix : P.follows .mixedOrders = true) {T : Nat → Option CSumm} (hT : KOk P T) (fuel : Nat) : ∀ n, KOk P (closedT P T fuel n) := by
  intro n
  induction n with
  | zero => exact hT
  | succ n ih =>
    have key : ∀ f s, closedT P T fuel (n + 1) f = some s → T f = some s ∨ ∃ fn, P.funcs[f]? = some fn ∧ fn.body.isNone = false ∧ s = bodyC P (closedT P T fuel n) (fun g => inl T g && hasBody P g) false fuel fn := by
      intro f s h
      simp only [closedT] at h
      cases hT : T f with
      | some s' => rw [hT] at h; exact .inl h
      | none =>
        simp only [hT] at h
        cases hf : P.funcs[f]? with
        | none => simp [hf] at h
        | some fn =>
          simp only [hf] at h
          cases hb : fn.body.isNone with
          | true => simp [hb] at h
          | false =>
            simp only [hb, cond_false, Option.some.injEq] at h
            exact .inr ⟨fn, rfl, hb, h.symm⟩
    constructor
    · intro f s h
      rcases key f s h with h | ⟨fn, hf, hb, rfl⟩
      · exact hT.fn f s h
      · exact ⟨fn, hf, noNum_at hn hf, hb⟩
    · intro f s h
      rcases key f s h with h | ⟨fn, hf, hb, rfl⟩
      · exact hT.ok f s h
      · exact body_valid ih hmix hf

theorem known_closedT (hn : noNum P) (hmix : P.follows .mixedOrders = true) {T : Nat → Option CSumm} (hT : KOk P T) {fuel n f : Nat} {fn : Func} (hf : P.funcs[f]? = some fn) (hb : fn.body.isNone = false) {r : SV} (h : callK (closedT P T fuel n) f [] [] = some (r, [])) : Known P f (constS r) := by
  have hk := closedT_ok hn hmix hT fuel n
  refine ⟨⟨fn, hf, noNum_at hn hf, hb⟩, ?_⟩
  simp only [callK] at h
  cases hc : closedT P T fuel n f with
  | none => rw [hc] at h; cases h
  | some s =>
    rw [hc] at h
    intro args H v ups hr
    have hs := hk.ok f s hc
    have : args = [] ∧ H = [] ∧ v = r ∧ ups = [] := by
      unfold constS at hr
      split at hr
      · simp only [crun, Option.some.injEq, Prod.mk.injEq] at hr
        exact ⟨rfl, rfl, hr.1.symm, hr.2.symm⟩
      · cases hr
    obtain ⟨rfl, rfl, rfl, rfl⟩ := this
    exact hs [] [] _ [] h
/-- The same with open values: both sides of a test are reckoned where nothing is written. -/
def openT (P : Program) (T : Nat → Option CSumm) (fuel : Nat) : Nat → Nat → Option CSumm
  | 0, f => T f
  | n + 1, f =>
    match T f with
    | some s => some s
    | none => match P.funcs[f]? with
      | some fn => bif fn.body.isNone then none else some (bodyC P (openT P T fuel n) (fun g => inl T g && hasBody P g) true fuel fn)
      | none => none

theorem openT_ok (hn : noNum P) (hmix : P.follows .mixedOrders = true) {T : Nat → Option CSumm} (hT : KOk P T) (fuel : Nat) : ∀ n, KOk P (openT P T fuel n) := by
  intro n
  induction n with
  | zero => exact hT
  | succ n ih =>
    have key : ∀ f s, openT P T fuel (n + 1) f = some s → T f = some s ∨ ∃ fn, P.funcs[f]? = some fn ∧ fn.body.isNone = false ∧ s = bodyC P (openT P T fuel n) (fun g => inl T g && hasBody P g) true fuel fn := by
      intro f s h
      simp only [openT] at h
      cases hT : T f with
      | some s' => rw [hT] at h; exact .inl h
      | none =>
        simp only [hT] at h
        cases hf : P.funcs[f]? with
        | none => simp [hf] at h
        | some fn =>
          simp only [hf] at h
          cases hb : fn.body.isNone with
          | true => simp [hb] at h
          | false =>
            simp only [hb, cond_false, Option.some.injEq] at h
            exact .inr ⟨fn, rfl, hb, h.symm⟩
    constructor
    · intro f s h
      rcases key f s h with h | ⟨fn, hf, hb, rfl⟩
      · exact hT.fn f s h
      · exact ⟨fn, hf, noNum_at hn hf, hb⟩
    · intro f s h
      rcases key f s h with h | ⟨fn, hf, hb, rfl⟩
      · exact hT.ok f s h
      · exact body_valid ih hmix hf

end Go.Am
