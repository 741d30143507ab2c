/- Rows: from what a law's body comes to, whatever data it is handed, to the row's statement. -/
import Derived.Test.YtbeolnccdhjjeaaMachine7
import Derived.Lib.SmallJoins
set_option linter.unusedVariables false
set_option linter.unusedSimpArgs false
namespace Go.Am
open Go.ChangeShapes Go.WideShapes Go.ChangeAt Go.RowKit Go.Joins
section
variable {P : Program} {H : Type} {enc : TypeId × Value → H} {w : World} {base : Nat} {spare : Nat → Bool} {held : Bool}
theorem open_args {r : Reach} {b0 : Nat} : ∀ {ts : List TypeId} {vs : List Value} {ds : List (DataW H)} {p : List MemPlace}, ts.all (flatT P 40) = true → (∀ (j : Nat) t v, ts[j]? = some t → vs[j]? = some v → Value.okWide P w r b0 t v) → DataW.TrodAll enc P w base spare held ts vs ds p →
  ds.length = ts.length ∧ ∃ ss, All2 (OkV P) ts ss ∧ All2 (fun s c => VRel P om0 w (Old w) noTh s c) ss vs
 | [], [], [], _, _, _, _ => ⟨rfl, [], .nil, .nil⟩
 | t :: ts, v :: vs, d :: ds, _, hf, hv, ⟨p, q, h1, h2, _⟩ => by
  simp only [List.all_cons, Bool.and_eq_true] at hf
  obtain ⟨s, a, b⟩ := open_data hf.1 (hv 0 t v rfl rfl) h1
  obtain ⟨e, ss, a', b'⟩ := open_args hf.2 (fun j t v ht hv' => hv (j + 1) t v (by simpa using ht) (by simpa using hv')) h2
  exact ⟨by simp [e], s :: ss, .cons a a', .cons b b'⟩
 | [], [], _ :: _, _, _, _, h => by simp [DataW.TrodAll] at h
 | [], _ :: _, _, _, _, _, h => by simp [DataW.TrodAll] at h
 | _ :: _, [], _, _, _, _, h => by simp [DataW.TrodAll] at h
 | _ :: _, _ :: _, [], _, _, _, h => by simp [DataW.TrodAll] at h
theorem old_call {f : FuncId} {s : CSumm} (hs : Known P f s) {args : List SV} {v : SV} {ups : List (Nat × Option Chunk)} (hr : crun (s args []) = some (v, ups)) {us : List Value} {w : World} (hgl : GlobR P w (Old w))
  (ha : LRel P om0 w (Old w) noTh args us) :
  Calls P f us.toArray w fun e w' => ∃ u θ' Im', e = .returned u ∧ VRel P om0 w' Im' θ' v u ∧ w'.os = w.os ∧ w'.output = w.output ∧ ∀ b, b < w.heap.size → w'.heap[b]? = w.heap[b]? := by
 have hg : ∀ x c, HpL.get [] x ≠ some c := fun x c h => by simp [HpL.get] at h
 refine (hs.ok args [] v ups hr (fun i p h => by simp at h) om0 noTh (Old w) w us ha ⟨fun x c h => absurd h (hg x c), fun x y c c' b N N' h => absurd h (hg x c), fun x c b N h => absurd h (hg x c), fun b h => h, hgl⟩ (fun x _ => rfl)).mono ?_
 rintro e w' ⟨u, θ', Im', rfl, he, hv, _⟩
 exact ⟨u, θ', Im', rfl, hv, he.os, he.output, fun b hb => he.keep b hb (fun x c N hx => absurd hx (hg x c))⟩
theorem kept_of_same {w w' : World} (ho : w'.os = w.os) (hp : w'.output = w.output) (hk : ∀ b, b < w.heap.size → w'.heap[b]? = w.heap[b]?) (may : MemPlace → Prop) : w.keptBut w' may := by
 refine ⟨ho, hp, fun i hi => ?_⟩
 rw [hk i hi]
 cases w.heap[i]? with
 | none => rfl
 | some o =>
  cases o with
  | cells c t fr => exact ⟨rfl, rfl, rfl, fun _ _ => rfl⟩
  | map es clock => exact .inr ⟨rfl, rfl⟩
  | _ => rfl
theorem trodAll_carry {w w' : World} : ∀ {ts : List TypeId} {vs : List Value} {ds : List (DataW H)} {p : List MemPlace}, DataW.TrodAll enc P w base spare held ts vs ds p → (∀ q ∈ p, w.sameAt w' q) → DataW.TrodAll enc P w' base spare held ts vs ds p
 | [], [], [], _, h, _ => h
 | _ :: _, _ :: _, _ :: _, _, ⟨p, q, ⟨n, hn⟩, h2, e⟩, hs => ⟨p, q, ⟨n, DataW.trod_carry n _ _ _ hn (fun x hx => hs x (by rw [e]; exact List.mem_append_left _ hx))⟩, trodAll_carry h2 (fun x hx => hs x (by rw [e]; exact List.mem_append_right _ hx)), e⟩
 | [], [], _ :: _, _, h, _ => by simp [DataW.TrodAll] at h
 | [], _ :: _, _, _, h, _ => by simp [DataW.TrodAll] at h
 | _ :: _, [], _, _, h, _ => by simp [DataW.TrodAll] at h
 | _ :: _, _ :: _, [], _, h, _ => by simp [DataW.TrodAll] at h
theorem row_true {f : FuncId} {fn : Func} {s : ChangeSpec} {apart fresh handsOn again : Bool} {sm : CSumm} {tb : TypeId} {W : World} {b0 : Nat} {args : Array Value} {ds gs : List (DataW H)} {before : List MemPlace}
  (hl : laidOutB P = true) (hm : mapsRowed P = true) (hz : ((List.range P.types.size).all fun t => match P.underlying t with | some (.slice e) => decide (0 < P.cellsOf e) | _ => true) = true)
  (hsz : (fn.params.toList.all fun t => decide (t < P.types.size)) = true) (hflat : fn.params.toList.all (flatT P 40) = true)
  (hk : Known P f sm) (hv : s.vars = []) (hu : P.underlying tb = some .bool) (hrt : fn.resultTypes = #[tb])
  (hlaw : ∀ ss, All2 (OkV P) fn.params.toList ss → crun (sm ss []) = some (.bool true, []))
  (hspec : ∀ ds : List (DataW H), ds.length = fn.params.toList.length → s.fn H ds = { results := [.lit (.bool true)], args := ds })
  (hval : ∀ (j : Nat) t v, fn.params[j]? = some t → args[j]? = some v → Value.okWide P W .any b0 t v)
  (hW : DataW.Whole enc P fn.params.toList s.vars apart W args.toList ds gs before) (hgl : GlobR P W (Old W)) :
  Calls P f args W fun e W' => ∃ v, e = .returned v ∧ s.post enc P fn apart fresh handsOn again W args v W' := by
 have hW' := hW
 obtain ⟨p, q, hA, hV, rfl, hfz, hnd⟩ := hW
 rw [hv] at hV
 obtain ⟨rfl, rfl⟩ := trodVars_none hV
 obtain ⟨hdl, ss, o1, o2⟩ := open_args (r := .any) (b0 := b0) hflat (fun j t v ht hv => hval j t v (by simpa using ht) (by simpa using hv)) hA
 have hc := old_call hk (hlaw ss o1) hgl (all2_lrel o2)
 rw [Array.toArray_toList] at hc
 refine hc.mono ?_
 rintro o W' ⟨u, θ', Im', rfl, hu', ho, hp, hkp⟩
 cases hu'
 refine ⟨_, rfl, post_kept (pa := p) (pv := []) hW' (fun _ _ _ => ?_) (fun sp hsp => ?_) (fun sp _ => ?_) (by simp) (kept_of_same ho hp hkp _) (fun a ha => ?_) ?_⟩
 · rw [List.append_nil, hspec ds hdl, hrt]
   exact trodAll_mk1 (shut_bool hu true)
 · rw [List.append_nil, hspec ds hdl]
   refine DataW.TrodAll.respare (kids_rows hl hm) (slices_full_of P hz) (fun t ht => ?_) (trodAll_carry hA (fun q hq => ?_)) (fun x hx => hsp x (by simpa using hx))
   · simpa using List.all_eq_true.1 hsz t ht
   · have hlt := hW'.lt q (by simpa using hq)
     cases q with
     | cell b off => simp only [World.sameAt, World.cell?, hkp b hlt]
     | map b => exact hkp b hlt
 · rw [List.append_nil, hspec ds hdl, hv]
   rfl
 · simp only [World.frozen?, hkp a.block ha]
 · rw [show fn.resultTypes = #[tb] from hrt]
   intro j t r ht hr
   cases j with
   | zero =>
    simp at ht hr
    subst ht
    simp [Value.resultList] at hr
    subst hr
    exact okWide_bool_mk hu true
   | succ j => simp at ht
end
end Go.Am
