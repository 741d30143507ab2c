/- The abstract machine: a copy of a list is the list. -/
import Derived.Test.YtbeolnccdhjjeaaAmLoopTop
namespace Go.Am
variable {P : Program} {ω : Nat → Value}

def bndE (b : Nat) (es : List SV) : Bool := decide (es.length ≤ 9223372036854775807) && decide (es.length * b ≤ 140737488355328)
/-- 'slices.Clone' and its like: what is known by content is so again. -/
def cloneS (e b : Nat) : CSumm
  | [.psl e' es], [] => .ite (Nat.beq e e' && bndE b es) (.ret (.psl e es) []) .fail
  | _, _ => .fail

theorem known_clone (hn : noNum P) (hmix : P.follows .mixedOrders = true) {f : FuncId} {fn : Func} (hf : P.funcs[f]? = some fn) (hb : fn.body.isNone = false) {e b sz : Nat} {body : CSumm} (hv : ValidC P f body)
    (h1 : crun (body [.nils] []) = some (.nils, [])) (h2 : ∀ es, bndE b es = true → crun (body [.pnn e es] []) = some (.qs 0 sz 0 (0 + es.length), [(0, some (.seq e ([] ++ es)))])) : Known P f (cloneS e b) := by
  refine ⟨⟨fn, hf, noNum_at hn hf, hb⟩, ?_⟩
  intro args H v ups hrun hcanon ω θ Im w us hl hH hfr
  unfold cloneS at hrun
  split at hrun
  case h_2 => simp [crun] at hrun
  rename_i e' es
  cases hc : Nat.beq e e' && bndE b es with
  | false => rw [hc] at hrun; simp [crun] at hrun
  | true =>
    rw [hc] at hrun
    simp only [if_true, crun, Option.some.injEq, Prod.mk.injEq] at hrun
    obtain ⟨rfl, rfl⟩ := hrun
    simp only [Bool.and_eq_true] at hc
    have : e = e' := Nat.eq_of_beq_eq_true hc.1
    subst this
    match us, hl with
    | [u], hl =>
      have hu := hl.at_ 0 _ u rfl rfl
      have one : ∀ {v : SV}, VRel P ω w Im θ v u → LRel P ω w Im θ [v] [u] := fun hv => ⟨rfl, fun i x y hx hy => by
        cases i with
        | zero => simp at hx hy; subst hx; subst hy; exact hv
        | succ i => simp at hx⟩
      have hu2 := hu
      cases hu with
      | psl uf g1 g0 g2 g3 g4 =>
        rename_i p n cap
        cases p with
        | none =>
          have hc0 : cap = 0 := g0.2 rfl
          subst hc0
          have hn0 : n = 0 := by omega
          subst hn0
          have he : es = [] := List.eq_nil_of_length_eq_zero g1
          subst he
          refine (hv [.nils] [] _ _ h1 hcanon ω θ Im w _ (one .nils) hH hfr).mono ?_
          rintro o w' ⟨z, θ', Im', rfl, hE, hz, hH'⟩
          refine ⟨z, θ', Im', rfl, hE, ?_, hH'⟩
          cases hz
          exact .psl (fun _ => undef) rfl ⟨Nat.le_refl _, by simp⟩ (fun v hv => by cases hv) (fun i v hv => by simp at hv) (fun hn => absurd rfl hn)
        | some a =>
          refine (hv [.pnn e es] [] _ _ (h2 es hc.2) hcanon ω θ Im w _ (one (.pnn hu2)) hH hfr).mono ?_
          rintro o w' ⟨z, θ', Im', rfl, hE, hz, hH'⟩
          have hget : updF [(0, some (.seq e ([] ++ es)))] (HpL.get []) 0 = some (.seq e es) := by simp [updF]
          have hp := seq_psl hH' hget (by simp) hz
          obtain ⟨hE2, hH2⟩ := drop_step hH' (new := fun x => ([] : HpL).length ≤ x) [0]
          have hfun : updF (drops [0]) (updF [(0, some (.seq e ([] ++ es)))] (HpL.get [])) = updF [] (HpL.get []) := by
            funext x
            by_cases hx : x = 0
            · subst hx; simp [updF, drops, HpL.get]
            · simp [updF, drops, HpL.get, hx]
          rw [hfun] at hE2 hH2
          exact ⟨z, θ', _, rfl, hE.trans hE2, hp, hH2⟩

/-- 'append([]T{}, l...)'. -/
theorem known_own (hn : noNum P) (hmix : P.follows .mixedOrders = true) {f : FuncId} {fn : Func} (hf : P.funcs[f]? = some fn) (hb : fn.body.isNone = false) {e b sz : Nat} {body : CSumm} (hv : ValidC P f body)
    (h2 : ∀ es, bndE b es = true → crun (body [.psl e es] []) = some (.qs 0 sz 0 (0 + es.length), [(0, some (.seq e ([] ++ es)))])) : Known P f (cloneS e b) := by
  refine ⟨⟨fn, hf, noNum_at hn hf, hb⟩, ?_⟩
  intro args H v ups hrun hcanon ω θ Im w us hl hH hfr
  unfold cloneS at hrun
  split at hrun
  case h_2 => simp [crun] at hrun
  rename_i e' es
  cases hc : Nat.beq e e' && bndE b es with
  | false => rw [hc] at hrun; simp [crun] at hrun
  | true =>
    rw [hc] at hrun
    simp only [if_true, crun, Option.some.injEq, Prod.mk.injEq] at hrun
    obtain ⟨rfl, rfl⟩ := hrun
    simp only [Bool.and_eq_true] at hc
    have : e = e' := Nat.eq_of_beq_eq_true hc.1
    subst this
    refine (hv [.psl e es] [] _ _ (h2 es hc.2) hcanon ω θ Im w _ hl hH hfr).mono ?_
    rintro o w' ⟨z, θ', Im', rfl, hE, hz, hH'⟩
    have hget : updF [(0, some (.seq e ([] ++ es)))] (HpL.get []) 0 = some (.seq e es) := by simp [updF]
    have hp := seq_psl hH' hget (by simp) hz
    obtain ⟨hE2, hH2⟩ := drop_step hH' (new := fun x => ([] : HpL).length ≤ x) [0]
    have hfun : updF (drops [0]) (updF [(0, some (.seq e ([] ++ es)))] (HpL.get [])) = updF [] (HpL.get []) := by
      funext x
      by_cases hx : x = 0
      · subst hx; simp [updF, drops, HpL.get]
      · simp [updF, drops, HpL.get, hx]
    rw [hfun] at hE2 hH2
    exact ⟨z, θ', _, rfl, hE.trans hE2, hp, hH2⟩
end Go.Am
