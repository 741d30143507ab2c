/- The abstract machine: bodies without loops, their outcome as a plain term whose open tests stand at its head. -/
import Derived.Test.YtohhhodkmnpjpaaAmTop
namespace Go.Am
variable {P : Program}

section
variable {R : Type} (fl : R)
def interpR (h : Tr Chunk) (k : SV → List (Nat × Option Chunk) → Nat → List Nat → R) : OpM → List Nat → R
  | .done r ups nx, rs => k r ups nx rs
  | .get x f, rs => match h.get x with
    | some c => interpR h k (f c) (rs ++ [x])
    | none => fl
  | .ite b t e, rs => bif b then interpR h k t rs else interpR h k e rs
  | .fail, _ => fl
def guardR (all : List Oper) (s : St) (k : St → Bool → R) : Option (Nat × Bool) → R
  | none => k s true
  | some (j, want) =>
    match nth? all j with
    | some oj => match oj.dst with
      | some d => match s.tmp d with
        | .bool b =>
          bif Nat.blt d s.size then
            bif b then k (s.put (some d) (.bool true)) want else k (s.put (some d) (.bool false)) (!want)
          else fl
        | .tup [] => bif Nat.blt d s.size then k s false else fl
        | _ => fl
      | none => fl
    | none => fl
variable (P : Program) (κ : Nat → Option CSumm)
def opsR (all : List Oper) (k : St → List Foot → R) : List Oper → Nat → St → List Foot → R
  | [], _, s, acc => k s acc
  | o :: os, i, s, acc =>
    bif dstOk s o.dst then
      guardR fl all s (fun s go =>
        bif go then interpR fl s.hp (fun r ups nx rs => bif Nat.blt nx 1000000 then opsR all k os (i + 1) ((s.upd ups nx).put o.dst r) (⟨i, rs, ups.map (·.1)⟩ :: acc) else fl) (opM P κ o s.ev s.nx) []
        else opsR all k os (i + 1) (s.put o.dst (.tup [])) acc) o.guard
    else fl
def regionRB (ops : Array Oper) (draw : Bool) (k : St → R) (s : St) : R :=
  bif draw then
    bif staticOk ops.toList (befAll ops.toList []) [] ops.toList 0 then
      opsR fl P κ ops.toList (fun s acc => bif footsOk (befAll ops.toList []) acc then k s else fl) ops.toList 0 s []
    else fl
  else opsR fl P κ ops.toList (fun s _ => k s) ops.toList 0 s []
def regionR (ops : Array Oper) (draw : Bool) (k : St → R) (s : St) : R :=
  match specRun P κ ops.toList draw s with
  | some s' => k s'
  | none => regionRB fl P κ ops draw k s
def execR : Code → St → (Ex → St → R) → R
  | .skip, s, k => k .normal s
  | .region _ ops draw, s, k => regionR fl P κ ops draw (k .normal) s
  | .seq a b, s, k => execR a s (fun e s => match e with
    | .normal => execR b s k
    | e => k e s)
  | .cond c t e, s, k =>
    match s.ev c with
    | .bool b => bif b then execR t s k else execR e s k
    | _ => fl
  | .block id c, s, k => execR c s (fun e s => match e with
    | .exit j => bif Nat.beq j id then k .normal s else k (.exit j) s
    | e => k e s)
  | .exit id, s, k => k (.exit id) s
  | .label _, s, k => k .normal s
  | .ret, s, k => k .ret s
  | _, _, _ => fl
def finishR (f : Func) (k : SV → List (Nat × Option Chunk) → R) (s : St) : R :=
  match resultsS P s f.results.toList with
  | some vs =>
    match reachNew s.hp s.m 2000 (namesS (oneOrTup vs) ++ dirtyNames s.hp s.dirty) [] with
    | some ns => k (renS (outName ns s.m) (oneOrTup vs)) (outOld s.hp (outName ns s.m) s.dirty ++ outNew s.hp (outName ns s.m) ns)
    | none => fl
  | none => fl
def bodyR (f : Func) (k : SV → List (Nat × Option Chunk) → R) (args : List SV) (H : HpL) : R :=
  match f.body with
  | some c =>
    bif canonB H 0 && closedB H.length H && Nat.ble args.length f.ntmps && Nat.blt f.ntmps 16000 && Nat.blt H.length 1000000 then
      execR fl P κ c (initSt true f args H) (fun e s => match e with
        | .ret => finishR fl P f k s
        | .normal => finishR fl P f k s
        | _ => fl)
    else fl
  | none => fl
end

section
variable {R : Type} {κ : Nat → Option CSumm} (φ : Tree → R)
theorem cond_nat (b : Bool) (t e : Tree) : φ (bif b then t else e) = bif b then φ t else φ e := by cases b <;> rfl
theorem interp_nat (h : Tr Chunk) (k : SV → List (Nat × Option Chunk) → Nat → List Nat → Tree) : ∀ (m : OpM) (rs : List Nat), φ (interp h k m rs) = interpR (φ .fail) h (fun r ups nx rs => φ (k r ups nx rs)) m rs
  | .done _ _ _, _ => rfl
  | .get x f, rs => by
    simp only [interp, interpR]
    cases h.get x with
    | none => rfl
    | some c => exact interp_nat h k (f c) _
  | .ite b t e, rs => by
    simp only [interp, interpR]
    rw [cond_nat φ, interp_nat h k t rs, interp_nat h k e rs]
  | .fail, _ => rfl
theorem guard_nat (all : List Oper) (s : St) (k : St → Bool → Tree) (g : Option (Nat × Bool)) : φ (guardS all s k g) = guardR (φ .fail) all s (fun s b => φ (k s b)) g := by
  cases g with
  | none => rfl
  | some p =>
    obtain ⟨j, want⟩ := p
    simp only [guardS, guardR]
    cases nth? all j with
    | none => rfl
    | some oj =>
      simp only []
      cases oj.dst with
      | none => rfl
      | some d =>
        simp only []
        generalize s.tmp d = v
        cases v with
        | bool b => simp only []; rw [cond_nat φ, cond_nat φ]
        | tup vs =>
          cases vs with
          | nil => simp only []; rw [cond_nat φ]
          | cons => rfl
        | _ => rfl
theorem ops_nat (all : List Oper) (k : St → List Foot → Tree) : ∀ (os : List Oper) (i : Nat) (s : St) (acc : List Foot), φ (opsC P κ all k os i s acc) = opsR (φ .fail) P κ all (fun s acc => φ (k s acc)) os i s acc
  | [], _, _, _ => rfl
  | o :: os, i, s, acc => by
    simp only [opsC, opsR]
    rw [cond_nat φ, guard_nat φ]
    congr 2
    funext s go
    rw [cond_nat φ, interp_nat φ, ops_nat all k os]
    congr 2
    funext r ups nx rs
    rw [cond_nat φ, ops_nat all k os]
theorem regionB_nat (ops : Array Oper) (draw : Bool) (k : St → Tree) (s : St) : φ (regionB P κ ops draw k s) = regionRB (φ .fail) P κ ops draw (fun s => φ (k s)) s := by
  simp only [regionB, regionRB]
  rw [cond_nat φ, cond_nat φ, ops_nat φ, ops_nat φ]
  congr 3
  funext s acc
  rw [cond_nat φ]
theorem region_nat (ops : Array Oper) (draw : Bool) (k : St → Tree) (s : St) : φ (regionC P κ ops draw k s) = regionR (φ .fail) P κ ops draw (fun s => φ (k s)) s := by
  simp only [regionC, regionR]
  cases specRun P κ ops.toList draw s with
  | some s' => rfl
  | none => exact regionB_nat φ ops draw k s
theorem exec_nat (hl : ∀ c s k, φ (.loop c s k) = φ .fail) : ∀ (c : Code) (s : St) (k : Ex → St → Tree), φ (exec P κ c s k) = execR (φ .fail) P κ c s (fun e s => φ (k e s)) := by
  intro c
  induction c with
  | skip => intro s k; rfl
  | region id ops draw => intro s k; simp only [exec, execR]; rw [region_nat φ]
  | seq a b iha ihb =>
    intro s k
    simp only [exec, execR]
    rw [iha]
    congr 1
    funext e s
    cases e <;> first | exact ihb s k | rfl
  | cond c t e iht ihe =>
    intro s k
    simp only [exec, execR]
    generalize s.ev c = v
    cases v <;> first
      | rfl
      | (simp only []; rw [cond_nat φ, iht, ihe])
  | block id c ih =>
    intro s k
    simp only [exec, execR]
    rw [ih]
    congr 1
    funext e s
    cases e <;> first | exact cond_nat φ _ _ _ | rfl
  | loop c _ => intro s k; simp only [exec, execR]; exact hl _ _ _
  | exit id => intro s k; rfl
  | label l => intro s k; rfl
  | ret => intro s k; rfl
  | rangeFunc f ps x y _ _ => intro s k; rfl
  | scope c _ => intro s k; rfl
  | goto l => intro s k; rfl
  | refuse w => intro s k; rfl
end

/-- The outcome of a body without loops. -/
def ctOf : Tree → CTree
  | .out v ups => .ret v ups
  | _ => .fail
def bodyC (P : Program) (κ : Nat → Option CSumm) (f : Func) : CSumm := bodyR .fail P κ f .ret

theorem bodyC_nat {κ : Nat → Option CSumm} (f : Func) (args : List SV) (H : HpL) : ctOf (bodyTree P κ true f args H) = bodyC P κ f args H := by
  unfold bodyC bodyR bodyTree
  cases f.body with
  | none => rfl
  | some c =>
    simp only []
    rw [cond_nat ctOf, exec_nat ctOf (fun _ _ _ => rfl)]
    congr 2
    funext e s
    have hf : ctOf (finish P f s) = finishR .fail P f .ret s := by
      unfold finish finishR
      cases resultsS P s f.results.toList with
      | none => rfl
      | some vs =>
        simp only []
        cases reachNew s.hp s.m 2000 (namesS (oneOrTup vs) ++ dirtyNames s.hp s.dirty) [] with
        | none => rfl
        | some ns => rfl
    cases e <;> first | exact hf | rfl

theorem known_of_bodyC {κ : Nat → Option CSumm} (hn : noNum P) (hmix : P.follows .mixedOrders = true) (hκ : KOk P κ) {f : FuncId} {fn : Func} (hf : P.funcs[f]? = some fn) (hb : fn.body.isNone = false) {s : CSumm}
    (hs : ∀ args H v ups, crun (s args H) = some (v, ups) → crun (bodyC P κ fn args H) = some (v, ups)) : Known P f s := by
  refine known_of_body (sp := true) hn hmix hκ hf (fun args H v ups h => ⟨1, ?_⟩) hb
  have h1 := hs args H v ups h
  rw [← bodyC_nat] at h1
  cases ht : bodyTree P κ true fn args H with
  | out v' u' => rw [ht] at h1; simp only [ctOf, crun, Option.some.injEq, Prod.mk.injEq] at h1; rw [h1.1, h1.2]; rfl
  | at_ e s => rw [ht] at h1; simp [ctOf, crun] at h1
  | fail => rw [ht] at h1; simp [ctOf, crun] at h1
  | loop c s k => rw [ht] at h1; simp [ctOf, crun] at h1

end Go.Am
