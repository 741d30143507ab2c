/- The abstract machine: weaker summaries; nil slices where a summary asks for lists known by content. -/
import Derived.Test.YtbeolnccdhjjeaaAmMemo
namespace Go.Am
variable {P : Program}

theorem Known.weak {f : FuncId} {s s' : CSumm} (h : Known P f s) (hs : ∀ args H v ups, crun (s' args H) = some (v, ups) → crun (s args H) = some (v, ups)) : Known P f s' :=
  ⟨h.fn, fun args H v ups hr => h.ok args H v ups (hs args H v ups hr)⟩

/-- Cells: a nil slice is a list without elements, where that is asked for. -/
def coCells : List (Option TypeId) → List SV → List SV
  | some e :: ts, .nils :: cs => .psl e [] :: coCells ts cs
  | _ :: ts, c :: cs => c :: coCells ts cs
  | [], cs => cs
  | _, [] => []
def coArg : List (Option TypeId) → SV → SV
  | m, .agg cs => .agg (coCells m cs)
  | [some e], .nils => .psl e []
  | _, v => v
def coArgs : List (List (Option TypeId)) → List SV → List SV
  | m :: ms, v :: vs => coArg m v :: coArgs ms vs
  | _, vs => vs
def coS (ms : List (List (Option TypeId))) (s : CSumm) : CSumm := fun args H => s (coArgs ms args) H

theorem nils_psl {ω : Nat → Value} {w : World} {Im : Nat → Prop} {θ : Th} {u : Value} {e : TypeId} (h : VRel P ω w Im θ .nils u) : VRel P ω w Im θ (.psl e []) u := by
  cases h
  exact .psl (es := []) (fun _ => undef) rfl ⟨Nat.le_refl _, fun _ => rfl⟩ (fun v hv => by cases hv) (fun i v h => by simp at h) (fun hn => absurd rfl hn)
theorem coCells_rel {ω : Nat → Value} {w : World} {Im : Nat → Prop} {θ : Th} : ∀ (ts : List (Option TypeId)) (cs : List SV) (us : List Value), LRel P ω w Im θ cs us → LRel P ω w Im θ (coCells ts cs) us
  | [], cs, us, h => by cases cs <;> exact h
  | t :: ts, [], us, h => by cases t <;> exact h
  | t :: ts, c :: cs, [], h => by have := h.len; simp at this
  | t :: ts, c :: cs, u :: us, h => by
    have h0 := h.at_ 0 c u rfl rfl
    have ht : LRel P ω w Im θ cs us := ⟨by simpa using h.len, fun i v u hv hu => h.at_ (i + 1) v u (by simpa using hv) (by simpa using hu)⟩
    have ih := coCells_rel ts cs us ht
    have mk : ∀ c', VRel P ω w Im θ c' u → LRel P ω w Im θ (c' :: coCells ts cs) (u :: us) := fun c' hc => ⟨by simp [ih.len], fun i v u' hv hu => by
      cases i with
      | zero => simp at hv hu; subst hv; subst hu; exact hc
      | succ i => exact ih.at_ i v u' (by simpa using hv) (by simpa using hu)⟩
    cases t with
    | none => exact mk c h0
    | some e =>
      by_cases hc : c = .nils
      · subst hc; exact mk _ (nils_psl h0)
      · have : coCells (some e :: ts) (c :: cs) = c :: coCells ts cs := by
          cases c <;> first | rfl | exact absurd rfl hc
        rw [this]; exact mk c h0
theorem coArg_rel {ω : Nat → Value} {w : World} {Im : Nat → Prop} {θ : Th} {v : SV} {u : Value} (m : List (Option TypeId)) (h : VRel P ω w Im θ v u) : VRel P ω w Im θ (coArg m v) u := by
  unfold coArg
  split
  · cases h with
    | agg h1 h2 =>
      rename_i cs us
      have hl : LRel P ω w Im θ cs us.toList := ⟨by simpa using h1, fun i v u hv hu => h2 i v u hv (by simpa using hu)⟩
      have hc := coCells_rel m cs us.toList hl
      exact .agg (by simpa using hc.len) (fun i v u hv hu => hc.at_ i v u hv (by simpa using hu))
  · exact nils_psl h
  · exact h
theorem coArgs_rel {ω : Nat → Value} {w : World} {Im : Nat → Prop} {θ : Th} : ∀ (ms : List (List (Option TypeId))) (vs : List SV) (us : List Value), LRel P ω w Im θ vs us → LRel P ω w Im θ (coArgs ms vs) us
  | [], vs, us, h => by cases vs <;> exact h
  | m :: ms, [], us, h => h
  | m :: ms, v :: vs, [], h => by have := h.len; simp at this
  | m :: ms, v :: vs, u :: us, h => by
    have h0 := h.at_ 0 v u rfl rfl
    have ih := coArgs_rel ms vs us ⟨by simpa using h.len, fun i v u hv hu => h.at_ (i + 1) v u (by simpa using hv) (by simpa using hu)⟩
    refine ⟨by simp [coArgs, ih.len], fun i v' u' hv hu => ?_⟩
    cases i with
    | zero => simp [coArgs] at hv hu; subst hv; subst hu; exact coArg_rel m h0
    | succ i => exact ih.at_ i v' u' (by simpa [coArgs] using hv) (by simpa using hu)
theorem Known.co {f : FuncId} {s : CSumm} (h : Known P f s) (ms : List (List (Option TypeId))) : Known P f (coS ms s) :=
  ⟨h.fn, fun args H v ups hr hc ω θ Im w us hl hH hfr => h.ok (coArgs ms args) H v ups hr hc ω θ Im w us (coArgs_rel ms args us hl) hH hfr⟩
end Go.Am
