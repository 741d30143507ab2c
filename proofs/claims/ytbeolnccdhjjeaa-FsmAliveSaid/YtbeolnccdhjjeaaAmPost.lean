/- The abstract machine: from a call's outcome to a row's statement. -/
import Derived.Test.YtbeolnccdhjjeaaAmTop
import Derived.ChangeSame
namespace Go.Am
open Go.ChangeShapes Go.WideShapes
variable {P : Program} {ω : Nat → Value}

/-- Where no block of the caller's is laid open, all of the caller's world is kept. -/
theorem Ext.kept {new : Nat → Prop} {h h' : HpF} {w w' : World} {Im Im' : Nat → Prop} {θ θ' : Th} (e : Ext new h w Im θ h' w' Im' θ') (hh : ∀ x c, h x ≠ some c) (may : MemPlace → Prop) :
    w.keptBut w' may ∧ ∀ a : Addr, a.block < w.heap.size → w'.frozen? a = w.frozen? a := by
  have key : ∀ b, b < w.heap.size → w'.heap[b]? = w.heap[b]? := fun b hb => e.keep b hb (fun x c N hx => absurd hx (hh x c))
  refine ⟨⟨e.os, e.output, fun i hi => ?_⟩, fun a ha => ?_⟩
  · rw [key i hi]
    cases w.heap[i]? with
    | none => rfl
    | some o =>
      cases o with
      | cells c t fr => exact ⟨rfl, rfl, rfl, fun _ _ => rfl⟩
      | map es clock => exact .inr ⟨rfl, rfl⟩
      | _ => rfl
  · simp only [World.frozen?, key a.block ha]

section
variable {H : Type} {enc : TypeId × Value → H} {w : World} {base : Nat} {spare : Nat → Bool} {held : Bool}
theorem post_kept {f : Func} {s : ChangeSpec} {apart fresh handsOn again : Bool} {W W' : World} {args : Array Value} {v : Value} {ds gs : List (DataW H)} {before pa pv : List MemPlace}
    (hW : DataW.Whole enc P f.params.toList s.vars apart W args.toList ds gs before)
    (hres : ∀ (b : Nat) (sp : Nat → Bool) (hd : Bool), DataW.TrodAll enc P W' b sp hd f.resultTypes.toList (v.resultList f.resultTypes.size) (s.fn H (ds ++ gs)).results [])
    (hargs : ∀ sp : Nat → Bool, (∀ p ∈ before, sp p.block = true) → DataW.TrodAll enc P W' 0 sp true f.params.toList args.toList (s.fn H (ds ++ gs)).args pa)
    (hvars : ∀ sp : Nat → Bool, (∀ p ∈ before, sp p.block = true) → DataW.TrodVars enc P W' sp s.vars (s.fn H (ds ++ gs)).vars pv)
    (hps : before = pa ++ pv) (hk : W.keptBut W' (· ∈ before)) (hfz : ∀ a : Addr, a.block < W.heap.size → W'.frozen? a = W.frozen? a)
    (hok : ∀ (j : Nat) (t : TypeId) (r : Value), f.resultTypes[j]? = some t → (v.resultList f.resultTypes.size)[j]? = some r → Value.okWide P W' .any 0 t r) :
    s.post enc P f apart fresh handsOn again W args v W' := by
  have hold : ∀ p ∈ before, (fun b => decide (b < W.heap.size)) p.block = true := fun p hp => by simpa using hW.lt p hp
  have hlt : ∀ p ∈ before, p.block < W.heap.size := fun p hp => hW.lt p hp
  refine ⟨ds, gs, before, [], pa, pv, hW, hres _ _ _, hargs _ hold, hvars _ hold, World.keptBut_mono (fun p hp => ⟨hp, ?_⟩) hk, fun _ => ?_⟩
  · rw [hps, List.mem_append] at hp
    exact Or.inr hp
  · obtain ⟨_, _, _, _, _, hz, hn⟩ := hW
    refine ⟨hok, _, _, ([] ++ pa) ++ pv, ⟨[] ++ pa, pv, trodAll_append (hargs _ (fun _ _ => rfl)) (hres _ _ _), hvars _ (fun _ _ => rfl), rfl, ?_, ?_⟩, ?_⟩
    · intro b off hp
      have hp' : MemPlace.cell b off ∈ before := by rw [hps]; simpa using hp
      rw [hfz _ (hlt _ hp')]
      exact hz b off hp'
    · intro ha
      have := hn ha
      rw [hps] at this
      simpa using this
    · intro p hp _
      rw [hps]
      simpa using hp
end

/-- A call that is known, with nothing laid open: what it answers, and that the caller's world is kept. -/
theorem pure_call {f : FuncId} {s : CSumm} (hs : Known P f s) {args : List SV} {v : SV} {ups : List (Nat × Option Chunk)} (hr : crun (s args []) = some (v, ups)) {us : List Value} {w : World}
    (ha : LRel P om0 w (fun _ => False) noTh args us) :
    Calls P f us.toArray w fun e w' => ∃ u θ' Im', e = .returned u ∧ VRel P om0 w' Im' θ' v u ∧ (∀ may, w.keptBut w' may) ∧ ∀ a : Addr, a.block < w.heap.size → w'.frozen? a = w.frozen? a := by
  have hg : ∀ x c, HpL.get [] x ≠ some c := fun x c h => by simp [HpL.get] at h
  refine (hs.ok args [] v ups hr (fun i p h => by simp at h) om0 noTh (fun _ => False) w us ha ⟨fun x c h => absurd h (hg x c), fun x y c c' b N N' h => absurd h (hg x c), fun x c b N h => absurd h (hg x c), fun b h => h.elim⟩ (fun x _ => rfl)).mono ?_
  rintro e w' ⟨u, θ', Im', rfl, he, hv, _⟩
  exact ⟨u, θ', Im', rfl, hv, fun may => (he.kept (fun x c => hg x c) may).1, (he.kept (fun x c => hg x c) (fun _ => True)).2⟩

end Go.Am
namespace Go.Am
variable {P : Program} {ω : Nat → Value}
def constS (r : SV) : CSumm
  | [], [] => .ret r []
  | _, _ => .fail
/-- A function without parameters, run to its end. -/
theorem known_closed (hn : noNum P) (hmix : P.follows .mixedOrders = true) {fuel n f : Nat} {fn : Func} (hf : P.funcs[f]? = some fn) (hb : fn.body.isNone = false) {r : SV} (h : callK (closedS P fuel n) f [] [] = some (r, [])) : Known P f (constS r) := by
  have hk := closed_ok hn hmix fuel n
  refine ⟨⟨fn, hf, noNum_at hn hf, hb⟩, ?_⟩
  simp only [callK] at h
  cases hc : closedS P fuel n f with
  | none => rw [hc] at h; cases h
  | some s =>
    rw [hc] at h
    intro args H v ups hr
    have hs := hk.ok f s hc
    have : args = [] ∧ H = [] ∧ v = r ∧ ups = [] := by
      unfold constS at hr
      split at hr
      · simp only [crun, Option.some.injEq, Prod.mk.injEq] at hr
        exact ⟨rfl, rfl, hr.1.symm, hr.2.symm⟩
      · cases hr
    obtain ⟨rfl, rfl, rfl, rfl⟩ := this
    exact hs [] [] _ [] h
end Go.Am
