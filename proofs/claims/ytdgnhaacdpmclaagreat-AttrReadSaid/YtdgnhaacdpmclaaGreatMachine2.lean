/- The abstract machine: 'append'. -/
import Derived.Test.YtdgnhaacdpmclaaGreatMachine1
import Derived.Laws.IdiomStrings
import Derived.MapKept
import Derived.Lib.Builder
import Derived.Lib.UnsafeStr
import Derived.KernelRfl
import Derived.Laws.StandIn
import Derived.Lib.MakeNoZero
namespace Go.Am
variable {P : Program} {ω : Nat → Value}
theorem listLike_or {t : TypeId} (h : listLike P t = true) : (∃ e, P.underlying t = some (.slice e)) ∨ P.underlying t = some .string := by
 unfold listLike at h
 split at h
 · rename_i e hu; exact .inl ⟨e, hu⟩
 · rename_i hu; exact .inr hu
 · cases h
section
variable {w : World} {t t2 e : TypeId} {i : TypeInfo} {z : Value} {tys : Array TypeId} {args : Array Value} {ty : TypeId}
theorem append_in (h0 : tys[0]? = some t) (h1 : tys[1]? = some t2) (ht : P.underlying t = some (.slice e)) (ht2 : listLike P t2 = true) (hi : P.info? e = some i) {a : Addr} {n cap m : Nat} {x : Value} {news : List Value}
  (a0 : args[0]? = some (.slice (some a) n cap)) (a1 : args[1]? = some x) (hs : Src P w i.size x m news) (hle : n + m ≤ cap) {w' : World} (hst : (storeCells (a.add (n * i.size)) news).run P w = .ok () w') :
  (Builtin.append_ tys ty args).run P w = .ok (.slice (some a) (n + m) cap) w' := by
 have hl := hs.len w
 have hc := hs.cells w rfl
 rcases listLike_or ht2 with ⟨e2, hu⟩ | hu <;>
  simp [Builtin.append_, h0, h1, a0, a1, run_underlying ht, run_underlying hu, sizeOf, typeInfo, hi, hl, hle, hc, hst]
theorem append_none (h0 : tys[0]? = some t) (h1 : tys[1]? = some t2) (ht : P.underlying t = some (.slice e)) (ht2 : listLike P t2 = true) (hi : P.info? e = some i) {n cap m : Nat} {x : Value} {news : List Value}
  (a0 : args[0]? = some (.slice none n cap)) (a1 : args[1]? = some x) (hs : Src P w i.size x m news) (hle : n + m ≤ cap) :
  (Builtin.append_ tys ty args).run P w = .ok (.slice none (n + m) cap) w := by
 have hl := hs.len w
 have hc := hs.cells w rfl
 rcases listLike_or ht2 with ⟨e2, hu⟩ | hu <;>
  simp [Builtin.append_, h0, h1, a0, a1, run_underlying ht, run_underlying hu, sizeOf, typeInfo, hi, hl, hle, hc]
theorem append_out (h0 : tys[0]? = some t) (h1 : tys[1]? = some t2) (ht : P.underlying t = some (.slice e)) (ht2 : listLike P t2 = true) (hi : P.info? e = some i) (hz : i.zero = some z) {p : Option Addr} {n cap m : Nat} {x : Value} {news olds : List Value}
  (a0 : args[0]? = some (.slice p n cap)) (a1 : args[1]? = some x) (hs : Src P w i.size x m news) (ho : ∀ w' : World, w'.heap = w.heap → (Builtin.firstCells i.size n (.slice p n cap)).run P w' = .ok olds.toArray w') (hgt : cap < n + m)
  (h63 : n + m ≤ 9223372036854775807) (hb : (n + m) * i.bytes ≤ 140737488355328) :
  (Builtin.append_ tys ty args).run P w = .ok (.slice (some ⟨w.heap.size, 0, none⟩) (n + m) (grownCap w (n + m) cap e))
    (w.drew.alloc (.cells (olds.toArray ++ news.toArray ++ Builtin.zeroCells z.cells (grownCap w (n + m) cap e - (n + m))) e)) := by
 have hl := hs.len w
 have hc := hs.cells w.drew rfl
 have hco := ho w.drew rfl
 have hn : ¬ (n + m ≤ cap) := by omega
 have h63' : ¬ (9223372036854775807 < ((n : Int) + (m : Int))) := by omega
 have hfit := growslice_fits (need := n + m) (old := cap) (bytes := i.bytes) hgt hb
 have h48' : ¬ (281474976710656 < Builtin.nextslicecap (n + m) cap * i.bytes) := by omega
 rcases listLike_or ht2 with ⟨e2, hu⟩ | hu <;>
  simp [Builtin.append_, h0, h1, a0, a1, run_underlying ht, run_underlying hu, sizeOf, typeInfo, zeroValue, hi, hz, hl, hn, h63', h48', Question.forced, hc, hco, newRow, grownCap] <;> (congr 2; apply Array.ext'; simp)
inductive Dst (P : Program) (w : World) (θ : Th) (h : HpF) (e : TypeId) (dead : List Nat) (n : Nat) (uf : Nat → Value) : Value → Prop
 | none {p : Option Addr} : n = 0 → Dst P w θ h e dead n uf (.slice p 0 0)
 | row {b cap y : Nat} {c0 : Chunk} {N' : Nat} {cs : Array Value} {fr : Nat × Nat} : y ∈ dead → h y = some c0 → θ y = some (b, N') → w.heap[b]? = some (.cells cs e fr) → fine cs.size fr → n ≤ cap → cap * P.cellsOf e ≤ cs.size →
   (∀ i, i < n → ∀ (d : Nat) (c : Value), (uf i).cells[d]? = some c → cs[i * P.cellsOf e + d]? = some c) → Dst P w θ h e dead n uf (.slice (some ⟨b, 0, none⟩) n cap)
theorem apartN_spec : ∀ (l m : List Nat), apartN l m = true → ∀ x ∈ l, x ∉ m
 | [], _, _, x, hx => by cases hx
 | y :: l, m, h, x, hx => by
  simp only [apartN, Bool.and_eq_true, Bool.not_eq_true'] at h
  rcases List.mem_cons.1 hx with rfl | hx
  · intro hm; rw [(memN_iff' _ _).2 hm] at h; exact absurd h.1 (by simp)
  · exact apartN_spec l m h.2 x hx
theorem grown_cells {w : World} {Im : Nat → Prop} {e : TypeId} {es fs : List SV} {us vs : Nat → Value} (h : Elems P w Im e es us) (h' : Elems P w Im e fs vs) {cells : List Value}
  (hc : ∀ (j : Nat) (u : Value), (flat us es.length ++ flat vs fs.length)[j]? = some u → cells[j]? = some u) : ∀ (i : Nat) (v : SV), (es ++ fs)[i]? = some v →
   ∀ (d : Nat) (c : Value), ((fun i => if i < es.length then us i else vs (i - es.length)) i).cells[d]? = some c → cells[i * P.cellsOf e + d]? = some c := by
 intro i v hv d c hd
 have happ := h.append h'
 have hi : i < (es ++ fs).length := by
  rcases Nat.lt_or_ge i (es ++ fs).length with h1 | h1
  · exact h1
  · simp [List.getElem?_eq_none h1] at hv
 have hd' : d < P.cellsOf e := by
  rw [← happ.size i hi]
  rcases Nat.lt_or_ge d ((fun i => if i < es.length then us i else vs (i - es.length)) i).cells.size with h1 | h1
  · exact h1
  · simp [Array.getElem?_eq_none h1] at hd
 refine hc _ c ?_
 rw [← flat_add us vs es.length fs.length, ← List.length_append, flat_get _ happ.size i d hi hd']
 exact hd
theorem grow_run {w : World} {Im : Nat → Prop} {θ : Th} {h : HpF} (hr : HRel P ω w Im θ h) {nx : Nat} (hθ : θ nx = none) (hnx : h nx = none) {dead ys : List Nat} (hap : apartN dead ys = true) {es fs : List SV} {us vs : Nat → Value}
  (hes : Elems P w (frozenBy Im θ h ys) e es us) (hfs : Elems P w (frozenBy Im θ h ys) e fs vs) (hpl : plainE P e = true)
  (h0 : tys[0]? = some t) (h1 : tys[1]? = some t2) (ht : P.underlying t = some (.slice e)) (ht2 : listLike P t2 = true) (hi : P.info? e = some i) (hz : i.zero = some z) (hzs : z.cells.size = P.cellsOf e)
  {s x : Value} (a0 : args[0]? = some s) (a1 : args[1]? = some x) (hd : Dst P w θ h e dead es.length us s) (hsrc : Src P w (P.cellsOf e) x fs.length (flat vs fs.length))
  (h63 : es.length + fs.length ≤ 9223372036854775807) (hb : (es.length + fs.length) * i.bytes ≤ 140737488355328) :
  ∃ v' w' θ', (Builtin.append_ tys ty args).run P w = .ok v' w' ∧ Ext (fun x => nx ≤ x ∧ x < nx + 1) h w Im θ (updF (drops (dead ++ ys) ++ [(nx, some (.seq e (es ++ fs)))]) h) w' (frozenBy Im θ h ys) θ' ∧
   HRel P ω w' (frozenBy Im θ h ys) θ' (updF (drops (dead ++ ys) ++ [(nx, some (.seq e (es ++ fs)))]) h) ∧ VRel P ω w' (frozenBy Im θ h ys) θ' (.qs nx (P.cellsOf e) 0 (es.length + fs.length)) v' := by
 have hsize : i.size = P.cellsOf e := by simp [Program.cellsOf, hi]
 have hsub : ∀ y ∈ ys, y ∈ dead ++ ys := fun y hy => List.mem_append.2 (.inr hy)
 have happ := hes.append hfs
 have hfl := flat_len (us := us) es.length hes.size
 have hgl := flat_len (us := vs) fs.length hfs.size
 have hones : ∀ u ∈ flat vs fs.length, u.oneCell' = true := by
  intro u hu
  obtain ⟨k, hk, huk⟩ := flat_mem _ u hu
  have hrel := (hfs.rel k fs[k] (by simp [hk])).1
  exact (plain_cells hpl (hfs.fit _ (List.getElem_mem hk)) hrel).1 u huk
 -- out of place
 have out : ∀ {p : Option Addr} {cap : Nat}, s = .slice p es.length cap → (∀ w' : World, w'.heap = w.heap → (Builtin.firstCells i.size es.length (.slice p es.length cap)).run P w' = .ok (flat us es.length).toArray w') → cap < es.length + fs.length →
   ∃ v' w' θ', (Builtin.append_ tys ty args).run P w = .ok v' w' ∧ Ext (fun x => nx ≤ x ∧ x < nx + 1) h w Im θ (updF (drops (dead ++ ys) ++ [(nx, some (.seq e (es ++ fs)))]) h) w' (frozenBy Im θ h ys) θ' ∧
    HRel P ω w' (frozenBy Im θ h ys) θ' (updF (drops (dead ++ ys) ++ [(nx, some (.seq e (es ++ fs)))]) h) ∧ VRel P ω w' (frozenBy Im θ h ys) θ' (.qs nx (P.cellsOf e) 0 (es.length + fs.length)) v' := by
  intro p cap hs ho hgt
  subst hs
  have hge := grownCap_ge w (es.length + fs.length) cap e
  have hrun := append_out (args := args) (ty := ty) h0 h1 ht ht2 hi hz a0 a1 (by rw [hsize]; exact hsrc) ho hgt h63 hb
  generalize hcells : ((flat us es.length).toArray ++ (flat vs fs.length).toArray ++ Builtin.zeroCells z.cells (grownCap w (es.length + fs.length) cap e - (es.length + fs.length))) = cells at hrun
  have hcs : cells.size = grownCap w (es.length + fs.length) cap e * P.cellsOf e := by
   rw [← hcells]
   simp only [Array.size_append, List.size_toArray, hfl, hgl, size_zeroCells, hzs, ← Nat.add_mul]
   congr 1; omega
  obtain ⟨θ', hE, hH, hn⟩ := name_step hr hθ hnx hsub (ds := dead ++ ys) (w' := w.drew.alloc (.cells cells e)) (b := w.heap.size) (N := cells.size) (.inl ⟨Nat.le_refl _, by simp⟩) (by simp) (fun d _ hdl => alloc_old w.drew _ d hdl) rfl rfl rfl (.seq e (es ++ fs)) (fun θ' g1 g2 g3 => by
   refine .inr ⟨w.heap.size, cells.size, cells, e, (0, 0), _, g1, alloc_new w.drew _, fun i _ hh => by omega, ⟨rfl, rfl⟩, ?_, happ.fit, fun i v hv => ⟨((happ.mono g3).rel i v hv).1, (happ.rel i v hv).2, ?_⟩⟩
   · rw [hcs, List.length_append]; exact Nat.mul_le_mul_right _ hge
   · have := grown_cells hes hfs (cells := cells.toList) (fun j u hj => by
       rw [← hcells]
       simp only [Array.toList_append, List.append_assoc]
       rw [← List.append_assoc, List.getElem?_append_left]
       · exact hj
       · rcases Nat.lt_or_ge j (flat us es.length ++ flat vs fs.length).length with h3 | h3
         · exact h3
         · simp [List.getElem?_eq_none h3] at hj) i v hv
     intro d c hd
     have := this d c hd
     simpa using this)
  refine ⟨_, _, θ', hrun, hE, hH, ?_⟩
  have := VRel'.qs (P := P) (ω := ω) (w := w.drew.alloc (.cells cells e)) (Im := frozenBy Im θ h ys) (θ := θ') (x := nx) (sz := P.cellsOf e) (l := 0) (n := es.length + fs.length) (cap := grownCap w (es.length + fs.length) cap e) hn (by rw [hcs]; simp) hge
  simpa using this
 cases hd with
 | none hn0 =>
  rename_i p
  have hes0 : es = [] := List.eq_nil_of_length_eq_zero hn0
  subst hes0
  by_cases hm : fs.length = 0
  · have hfs0 : fs = [] := List.eq_nil_of_length_eq_zero hm
    subst hfs0
    obtain ⟨hE, hH⟩ := none_step hr hθ hsub e (ds := dead ++ ys)
    refine ⟨.slice p 0 0, w, θ, ?_, by simpa using hE, by simpa using hH, .qsnil (by simp)⟩
    cases p with
    | none => exact append_none h0 h1 ht ht2 hi a0 a1 (by rw [hsize]; exact hsrc) (by simp)
    | some a => exact append_in h0 h1 ht ht2 hi a0 a1 (by rw [hsize]; exact hsrc) (by simp) (w' := w) (by simp [flat, storeCells])
  · exact out (p := p) (cap := 0) rfl (fun w' _ => (src_none (P := P) (w := w) (sz := i.size) (cap := 0) (p := p)).cells w' ‹_›) (by simp; omega)
 | row hy hyh hyθ hheap hfine hle hcap hcells =>
  rename_i b cap y c0 N' cs fr
  have hsrc0 : Src P w i.size (.slice (some ⟨b, 0, none⟩) es.length cap) es.length (flat us es.length) := by
   refine src_slice (by rw [hsize]; exact hfl) (flat_at hes.size (fun i hi d c hd => ?_))
   rw [add_off]
   simp only [World.cell?, hheap, Nat.zero_add]
   simpa using hcells i hi d c hd
  by_cases hfit : es.length + fs.length ≤ cap
  · have hroom : es.length * P.cellsOf e + (flat vs fs.length).length ≤ cs.size := by
      rw [hgl, ← Nat.add_mul]
      exact Nat.le_trans (Nat.mul_le_mul_right _ hfit) hcap
    have hst := run_storeCells_fine P b (es.length * P.cellsOf e) e fr (flat vs fs.length) 0 cs w hheap hfine (by simpa using hroom) hones
    simp only [Nat.add_zero] at hst
    have hrun := append_in (args := args) (ty := ty) h0 h1 ht ht2 hi a0 a1 (by rw [hsize]; exact hsrc) hfit (w' := w.setRow b (cs.toList.take (es.length * P.cellsOf e) ++ flat vs fs.length ++ cs.toList.drop (es.length * P.cellsOf e + (flat vs fs.length).length)).toArray) (by rw [add_off, hsize, Nat.zero_add]; exact hst)
    generalize hcells' : (cs.toList.take (es.length * P.cellsOf e) ++ flat vs fs.length ++ cs.toList.drop (es.length * P.cellsOf e + (flat vs fs.length).length)).toArray = cells at hrun
    have hcs : cells.size = cs.size := by
     rw [← hcells']
     simp only [List.size_toArray, List.length_append, List.length_take, List.length_drop, Array.length_toList]
     omega
    have hyys : y ∉ ys := apartN_spec _ _ hap y hy
    obtain ⟨θ', hE, hH, hn⟩ := name_step hr hθ hnx hsub (ds := dead ++ ys) (w' := w.setRow b cells) (b := b) (N := cells.size) (.inr ⟨y, c0, N', List.mem_append.2 (.inl hy), hyys, hyh, hyθ⟩) (by simp [World.setRow]) (fun d hd _ => setRow_other w b d _ hd) rfl rfl rfl (.seq e (es ++ fs)) (fun θ' g1 g2 g3 => by
     refine .inr ⟨b, cells.size, cells, e, fr, _, g1, setRow_heap w b cs _ e fr hheap, by rw [hcs]; exact hfine, ⟨rfl, rfl⟩, ?_, happ.fit, fun i v hv => ⟨((happ.mono g3).rel i v hv).1, (happ.rel i v hv).2, ?_⟩⟩
     · rw [hcs, List.length_append]; exact Nat.le_trans (Nat.mul_le_mul_right _ hfit) hcap
     · have := grown_cells hes hfs (cells := cells.toList) (fun j u hj => by
         rw [← hcells']
         simp only []
         have htake : cs.toList.take (es.length * P.cellsOf e) = flat us es.length := by
          apply List.ext_getElem?
          intro k
          by_cases hk : k < es.length * P.cellsOf e
          · rw [List.getElem?_take, if_pos hk]
            have hk2 : k < (flat us es.length).length := by rw [hfl]; exact hk
            have e1 : (flat us es.length)[k]? = some (flat us es.length)[k] := by simp [hk2]
            rw [e1]
            have := flat_at (us := us) (m := es.length) hes.size (at_ := fun j => cs[j]?) (fun i hi d c hd => hcells i hi d c hd) k _ e1
            simpa using this
          · rw [List.getElem?_take, if_neg hk, List.getElem?_eq_none (by rw [hfl]; omega)]
         rw [htake, List.getElem?_append_left]
         · exact hj
         · rcases Nat.lt_or_ge j (flat us es.length ++ flat vs fs.length).length with h3 | h3
           · exact h3
           · simp [List.getElem?_eq_none h3] at hj) i v hv
       intro d c hd
       have := this d c hd
       simpa using this)
    refine ⟨_, _, θ', hrun, hE, hH, ?_⟩
    have := VRel'.qs (P := P) (ω := ω) (w := w.setRow b cells) (Im := frozenBy Im θ h ys) (θ := θ') (x := nx) (sz := P.cellsOf e) (l := 0) (n := es.length + fs.length) (cap := cap) hn (by rw [hcs]; simpa using hcap) hfit
    simpa using this
  · exact out (p := some ⟨b, 0, none⟩) (cap := cap) rfl (fun w' hw => hsrc0.cells w' hw) (by omega)
end
end Go.Am
/- The abstract machine: slices, elements, loads. -/
namespace Go.Am
variable {P : Program} {ω : Nat → Value}
theorem chkM_run {h : HpF} {n : Nat} : ∀ {m : OpM} {rs0 : List Nat} {r : SV} {ups : List (Nat × Option Chunk)} {nx : Nat} {rs : List Nat}, mrun h (chkM n m rs0) = some (r, ups, nx, rs) →
  mrun h m = some (r, ups, nx, rs) ∧ n ≤ nx ∧ ∀ p ∈ ups, p.1 ∈ rs0 ∨ p.1 ∈ rs ∨ (n ≤ p.1 ∧ p.1 < nx)
 | .done r0 ups0 nx0, rs0, r, ups, nx, rs, hm => by
  simp only [chkM] at hm
  cases hb : Nat.ble n nx0 && keysOk rs0 n nx0 ups0 with
  | false => simp [hb, mrun] at hm
  | true =>
   simp only [hb, cond_true] at hm
   obtain ⟨rfl, rfl, rfl, rfl⟩ := mrun_done hm
   simp only [Bool.and_eq_true] at hb
   refine ⟨rfl, by have := hb.1; rwa [Nat.ble_eq] at this, fun p hp => ?_⟩
   have key : ∀ (l : List (Nat × Option Chunk)), keysOk rs0 n nx0 l = true → ∀ p ∈ l, p.1 ∈ rs0 ∨ (n ≤ p.1 ∧ p.1 < nx0) := by
    intro l
    induction l with
    | nil => intro _ p hp; cases hp
    | cons q l ih =>
     obtain ⟨y, c⟩ := q
     intro hk p hp
     simp only [keysOk, Bool.and_eq_true, Bool.or_eq_true] at hk
     rcases List.mem_cons.1 hp with rfl | hp
     · rcases hk.1 with h1 | h1
       · exact .inl ((memN_iff' _ _).1 h1)
       · rw [Nat.ble_eq, Nat.blt_eq] at h1; exact .inr h1
     · exact ih hk.2 p hp
   rcases key _ hb.2 p hp with h1 | h1
   · exact .inl h1
   · exact .inr (.inr h1)
 | .get x k, rs0, r, ups, nx, rs, hm => by
  simp only [chkM, mrun] at hm ⊢
  cases hx : h x with
  | none => simp [hx] at hm
  | some c =>
   simp only [hx] at hm ⊢
   cases hk : mrun h (chkM n (k c) (x :: rs0)) with
   | none => simp [hk] at hm
   | some q =>
    obtain ⟨r1, ups1, nx1, rs1⟩ := q
    simp only [hk, Option.some.injEq, Prod.mk.injEq] at hm
    obtain ⟨rfl, rfl, rfl, rfl⟩ := hm
    obtain ⟨h1, h2, h3⟩ := chkM_run hk
    refine ⟨by rw [h1], h2, fun p hp => ?_⟩
    rcases h3 p hp with h4 | h4 | h4
    · rcases List.mem_cons.1 h4 with h5 | h5
      · exact .inr (.inl (by simp [h5]))
      · exact .inl h5
    · exact .inr (.inl (by simp [h4]))
    · exact .inr (.inr h4)
 | .ite b t e, rs0, r, ups, nx, rs, hm => by
  simp only [chkM, mrun] at hm ⊢
  cases b
  · simp only [Bool.false_eq_true, if_false] at hm ⊢
    exact chkM_run hm
  · simp only [if_true] at hm ⊢
    exact chkM_run hm
 | .fail, _, _, _, _, _, hm => by simp [chkM, mrun] at hm
theorem mrun_ite_fail' {h : HpF} {b : Bool} {m : OpM} {res : SV × List (Nat × Option Chunk) × Nat × List Nat} (hm : mrun h (.ite b m .fail) = some res) : b = true ∧ mrun h m = some res := by
 cases b
 · simp [mrun] at hm
 · exact ⟨rfl, by simpa [mrun] using hm⟩
theorem bif_fail {h : HpF} {b : Bool} {m : OpM} {res : SV × List (Nat × Option Chunk) × Nat × List Nat} (hm : mrun h (bif b then m else .fail) = some res) : b = true ∧ mrun h m = some res := by
 cases b
 · simp [mrun] at hm
 · exact ⟨rfl, hm⟩
theorem get_run {h : HpF} {x : Nat} {k : Chunk → OpM} {r : SV} {ups : List (Nat × Option Chunk)} {nx : Nat} {rs : List Nat} (hm : mrun h (.get x k) = some (r, ups, nx, rs)) : ∃ c rs', h x = some c ∧ mrun h (k c) = some (r, ups, nx, rs') ∧ rs = x :: rs' := by
 simp only [mrun] at hm
 cases hx : h x with
 | none => simp [hx] at hm
 | some c =>
  simp only [hx] at hm
  cases hk : mrun h (k c) with
  | none => simp [hk] at hm
  | some q =>
   obtain ⟨r1, ups1, nx1, rs1⟩ := q
   simp only [hk, Option.some.injEq, Prod.mk.injEq] at hm
   obtain ⟨rfl, rfl, rfl, rfl⟩ := hm
   exact ⟨c, rs1, rfl, hk, rfl⟩
section
variable {w : World} {Im : Nat → Prop} {θ : Th} {h : HpF}
/- Slicing. -/
theorem run_sliceArr {t : TypeId} {x : SV} {lo hi mx : Option SV} {nx nx' : Nat} {r : SV} {ups : List (Nat × Option Chunk)} {rs : List Nat} (hr : HRel P ω w Im θ h) (hm : mrun h (sliceArrS P t x lo hi mx nx) = some (r, ups, nx', rs)) {u : Value} {ul uh um : Option Value} (hx : VRel P ω w Im θ x u)
  (l1 : lo = none → ul = none) (l2 : ∀ v, lo = some v → ∃ x, ul = some x ∧ VRel P ω w Im θ v x) (i1 : hi = none → uh = none) (i2 : ∀ v, hi = some v → ∃ x, uh = some x ∧ VRel P ω w Im θ v x) (m1 : mx = none → um = none) :
  ∃ v, (Instr.sliceAt t u ul uh um).run P w = .ok v w ∧ VRel P ω w Im θ r v ∧ ups = [] ∧ nx' = nx := by
 unfold sliceArrS at hm
 split at hm
 case h_2 => simp [mrun] at hm
 rename_i n e y off hu
 obtain rfl := m1 rfl
 split at hm
 case h_2 => simp [mrun] at hm
 rename_i l hh hl' hh'
 obtain ⟨c, rs', hy, hm, rfl⟩ := get_run hm
 cases c with
 | cells T vs =>
  obtain ⟨hk, hm⟩ := bif_fail hm
  simp only [Bool.and_eq_true] at hk
  obtain ⟨ie, hie⟩ := known_info hk.1
  have hle : off + n * P.cellsOf e ≤ vs.length := by have := hk.2; rwa [Nat.ble_eq] at this
  have bl := bound_rel hl' l1 l2
  have bh := bound_rel hh' i1 i2
  unfold slicedS at hm
  obtain ⟨hc, hm⟩ := mrun_ite_fail' hm
  simp only [Bool.and_eq_true, decide_eq_true_eq] at hc
  obtain ⟨⟨c1, c2⟩, c3⟩ := hc
  cases hx with
  | ptr hθ =>
   rename_i b N
   obtain ⟨b', cs, fr, g1, g2, g3, g4⟩ := hr.at_ y _ hy
   rw [hθ] at g1
   simp only [Option.some.injEq, Prod.mk.injEq] at g1
   obtain ⟨rfl, rfl⟩ := g1
   have hb := run_boundsA (P := P) (w := w) bl bh c1 c2 c3
   simp only [mrun] at hm
   split at hm
   · rename_i hc2
     simp only [Option.some.injEq, Prod.mk.injEq] at hm
     obtain ⟨rfl, rfl, rfl, _⟩ := hm
     simp only [Bool.or_eq_true, decide_eq_true_eq] at hc2
     refine ⟨.slice (some ⟨b, off + l.toNat * P.cellsOf e, none⟩) (hh.toNat - l.toNat) (n - l.toNat), ?_, .sl hθ ?_ (by omega), rfl, rfl⟩
     · by_cases hcl : n = l.toNat
       · have h0 : l = 0 := by omega
         subst h0
         have hc0 : n = 0 := by simpa using hcl
         subst hc0
         simp [Instr.sliceAt, run_underlying hu, hb, run_sizeOf' hie, Instr.sureAddr]
       · simp [Instr.sliceAt, run_underlying hu, hb, run_sizeOf' hie, hcl, add_off, Instr.sureAddr]
     · have : (l.toNat + (n - l.toNat)) * P.cellsOf e = n * P.cellsOf e := by congr 1; omega
       rw [Nat.add_assoc, ← Nat.add_mul, this]; exact hle
   · rename_i hc2
     simp only [Option.some.injEq, Prod.mk.injEq] at hm
     obtain ⟨rfl, rfl, rfl, _⟩ := hm
     simp only [Bool.or_eq_true, decide_eq_true_eq, not_or] at hc2
     have hnl : n = l.toNat := by omega
     refine ⟨.slice (some ⟨b, off, none⟩) 0 0, ?_, .psl (fun _ => undef) rfl ⟨Nat.zero_le _, by simp⟩ (fun v hv => by cases hv) (fun i v hv => by simp at hv) (fun hn => absurd rfl hn), rfl, rfl⟩
     have e0 : hh.toNat - l.toNat = 0 := by omega
     simp [Instr.sliceAt, run_underlying hu, hb, run_sizeOf' hie, ← hnl, Instr.sureAddr]
     omega
 | seq => simp [mrun] at hm
 | loopr => simp [mrun] at hm
 | mpc => simp [mrun] at hm
 | mpb => simp [mrun] at hm
end
end Go.Am
/- The abstract machine: slices, elements, loads, stores. -/
namespace Go.Am
variable {P : Program} {ω : Nat → Value}
section
variable {w : World} {Im : Nat → Prop} {θ : Th} {h : HpF}
theorem psl_part {e : TypeId} {es : List SV} {p : Option Addr} {n cap : Nat} {l k : Nat} (hv : VRel P ω w Im θ (.psl e es) (.slice p n cap)) (hlk : l + k ≤ es.length) :
  VRel P ω w Im θ (.psl e ((es.drop l).take k)) (.slice (if cap = l then p else p.map (·.add (l * P.cellsOf e))) k (cap - l)) := by
 cases hv with
 | psl us h1 h0 h2 h3 h4 =>
  have hlen : ((es.drop l).take k).length = k := by simp; omega
  by_cases hk0 : k = 0
  · subst hk0
    simp only [List.take_zero]
    refine .psl (fun _ => undef) rfl ⟨Nat.zero_le _, fun hp => ?_⟩ (fun v hv => by cases hv) (fun i v hv => by simp at hv) (fun hn => absurd rfl hn)
    by_cases hcl : cap = l
    · omega
    · rw [if_neg hcl] at hp
      have := h0.2 (by simpa using hp)
      omega
  · have hn0 : n ≠ 0 := by omega
    obtain ⟨a, off, rfl, ha, hc⟩ := h4 hn0
    have hcl : ¬ cap = l := by omega
    rw [if_neg hcl]
    simp only [Option.map_some, add_off]
    refine .psl (fun i => us (l + i)) hlen ⟨by omega, by simp⟩ (fun v hv => h2 v (List.mem_of_mem_drop (List.mem_of_mem_take hv))) (fun i v hv => ?_) (fun _ => ⟨a, _, rfl, ha, fun i hi => ?_⟩)
    · rw [List.getElem?_take] at hv
      split at hv
      · rw [List.getElem?_drop] at hv; exact h3 _ v hv
      · cases hv
    · obtain ⟨g1, g2⟩ := hc (l + i) (by omega)
      refine ⟨g1, fun d c hd => ?_⟩
      have := g2 d c hd
      rw [Nat.add_mul] at this
      rw [← this]
      congr 2
      omega
theorem mrun_ite_either {h : HpF} {b : Bool} {m m' : OpM} {res : SV × List (Nat × Option Chunk) × Nat × List Nat} (hm : mrun h (.ite b m m') = some res) : (b = true ∧ mrun h m = some res) ∨ (b = false ∧ mrun h m' = some res) := by
 cases b
 · exact .inr ⟨rfl, by simpa [mrun] using hm⟩
 · exact .inl ⟨rfl, by simpa [mrun] using hm⟩
theorem run_bounds3 {w : World} {n cap : Nat} {lu hu mu : Option Value} {l h k : Int} (hl : (lu = none ∧ l = 0) ∨ ∃ q, lu = some (.int q l)) (hh : ∃ q, hu = some (.int q h)) (hm : ∃ q, mu = some (.int q k)) (h1 : 0 ≤ l) (h2 : l ≤ h) (h3 : h ≤ k) (h4 : k ≤ (n : Int)) (h5 : n ≤ cap) :
  (Instr.sliceBounds true n cap lu hu mu).run P w = .ok (l.toNat, h.toNat, k.toNat) w := by
 obtain ⟨q1, rfl⟩ := hh
 obtain ⟨q2, rfl⟩ := hm
 have a0 : 0 ≤ k := by omega
 have a1 : 0 ≤ h := by omega
 have a2 : k ≤ (cap : Int) := by omega
 have a3 : l ≤ (h.toNat : Int) := by omega
 have a4 : h ≤ (k.toNat : Int) := by omega
 have a5 : h ≤ max k 0 := by omega
 have a6 : l ≤ max h 0 := by omega
 rcases hl with ⟨rfl, rfl⟩ | ⟨q3, rfl⟩ <;> simp [Instr.sliceBounds, Instr.sliceBound, asIntOf, *]
theorem run_slc3X {t e : TypeId} (hu : P.underlying t = some (.slice e)) {ie : TypeInfo} (hie : P.info? e = some ie) {x : SV} {l hh k : Int} {nx nx' : Nat} {r : SV} {ups : List (Nat × Option Chunk)} {rs : List Nat} (hm : mrun h (slc3X P e x l hh k nx) = some (r, ups, nx', rs)) {u : Value} {ul uh um : Option Value} (hx : VRel P ω w Im θ x u)
  (bl : (ul = none ∧ l = 0) ∨ ∃ q, ul = some (.int q l)) (bh : ∃ q, uh = some (.int q hh)) (bm : ∃ q, um = some (.int q k)) :
  ∃ v, (Instr.sliceAt t u ul uh um).run P w = .ok v w ∧ VRel P ω w Im θ r v ∧ ups = [] ∧ nx' = nx := by
 unfold slc3X at hm
 split at hm
 case h_2 => simp [mrun] at hm
 rename_i y sz i n
 have hb0 := bif_fail hm; clear hm; obtain ⟨hk, hm⟩ := hb0
 have : sz = P.cellsOf e := Nat.eq_of_beq_eq_true hk
 subst this
 have hb0 := mrun_ite_fail' hm; clear hm; obtain ⟨hc, hm⟩ := hb0
 simp only [Bool.and_eq_true, decide_eq_true_eq] at hc
 obtain ⟨⟨⟨c1, c2⟩, c3⟩, c4⟩ := hc
 obtain ⟨rfl, rfl, rfl, -⟩ := mrun_done hm
 cases hx with
 | qs hθ g1 g2 =>
  rename_i b N cap
  have hb := run_bounds3 (P := P) (w := w) bl bh bm c1 c2 c3 c4 g2
  by_cases hcl : k.toNat = l.toNat
  · have hz : hh.toNat - l.toNat = 0 := by omega
    refine ⟨.slice (some ⟨b, i * P.cellsOf e, none⟩) 0 0, ?_, .qsnil hz, rfl, rfl⟩
    simp [Instr.sliceAt, Instr.slice, run_underlying hu, hb, run_sizeOf' hie, hz, hcl]
  · refine ⟨.slice (some ⟨b, (i + l.toNat) * P.cellsOf e, none⟩) (hh.toNat - l.toNat) (k.toNat - l.toNat), ?_, .qs hθ ?_ (by omega), rfl, rfl⟩
    · simp [Instr.sliceAt, Instr.slice, run_underlying hu, hb, run_sizeOf' hie, hcl, add_off, Nat.add_mul]
    · have : i + l.toNat + (k.toNat - l.toNat) ≤ i + cap := by omega
      exact Nat.le_trans (Nat.mul_le_mul_right _ this) g1
 | qsnil h0 =>
  rename_i p
  subst h0
  have hb := run_bounds3 (P := P) (w := w) (cap := 0) bl bh bm c1 c2 c3 c4 (Nat.le_refl _)
  have hl0 : l = 0 := by omega
  have hh0 : hh = 0 := by omega
  have hk0 : k = 0 := by omega
  subst hl0
  subst hh0
  subst hk0
  refine ⟨.slice p 0 0, ?_, .qsnil (by simp), rfl, rfl⟩
  simp [Instr.sliceAt, Instr.slice, run_underlying hu, hb, run_sizeOf' hie]
theorem byteL_at : ∀ {l : List SV}, byteL l = true → ∀ v ∈ l, ∃ n, v = .int .u8 n
 | [], _, v, h => by cases h
 | a :: l, hb, v, h => by
  unfold byteL at hb
  split at hb
  · rename_i heq; cases heq
  · rename_i n l' heq
    simp only [List.cons.injEq] at heq
    obtain ⟨rfl, rfl⟩ := heq
    rcases List.mem_cons.1 h with rfl | h
    · exact ⟨_, rfl⟩
    · exact byteL_at hb v h
  · cases hb
theorem run_pelS {t : TypeId} {v : SV} {off n nx nx' : Nat} {e : TypeId} {r : SV} {ups : List (Nat × Option Chunk)} {rs : List Nat} (hu : P.underlying t = some (.array n e)) (hm : mrun h (pelS P e n v off nx) = some (r, ups, nx', rs)) {u : Value} (hx : VRel P ω w Im θ (.pel v off) u) :
  ∃ v, (Instr.sliceAt t u none none none).run P w = .ok v w ∧ VRel P ω w Im θ r v ∧ ups = [] ∧ nx' = nx := by
 unfold pelS at hm
 split at hm
 case h_2 => simp [mrun] at hm
 rename_i cs hcs
 split at hm
 case h_2 => simp [mrun] at hm
 rename_i bs hbs
 have hb0 := bif_fail hm; clear hm; obtain ⟨hk, hm⟩ := hb0
 obtain ⟨rfl, rfl, rfl, rfl⟩ := mrun_done hm
 simp only [Bool.and_eq_true] at hk
 obtain ⟨k1, k2, k3, k4⟩ := hk
 obtain ⟨ie, hie⟩ := known_info k1
 have hn : 1 ≤ n := by rwa [Nat.ble_eq] at k4
 have hue : P.underlying e = some (.int .u8) ∧ P.cellsOf e = 1 := by
  unfold byteT at k2
  split at k2
  · rename_i h1; exact ⟨h1, Nat.eq_of_beq_eq_true k2⟩
  · cases k2
 obtain ⟨t1, t2⟩ := takeN_spec _ _ _ _ hbs
 cases hx with
 | pel h1 h2 h3 =>
  rename_i uu a base
  have hl := cells_rel h1 hcs
  have hlen : bs.length = n := by rw [t2, List.length_take, List.length_drop]; omega
  have hb := run_boundsA (P := P) (w := w) (n := n) (lu := none) (hu := none) (l := 0) (h := n) (.inl ⟨rfl, rfl⟩) (.inl ⟨rfl, rfl⟩) (by omega) (by omega) (by omega)
  have hat : ∀ (i : Nat) (x : SV), bs[i]? = some x → ∃ k q, x = .int .u8 k ∧ uu.cells.toList[off + i]? = some q ∧ q = .int .u8 k := by
   intro i x hi
   obtain ⟨k, rfl⟩ := byteL_at k3 x (List.mem_of_getElem? hi)
   have hci : cs[off + i]? = some (.int .u8 k) := by
    rw [t2] at hi
    rw [List.getElem?_take, List.getElem?_drop] at hi
    split at hi
    · exact hi
    · cases hi
   have hlt : off + i < uu.cells.toList.length := by
    obtain ⟨hlt, _⟩ := List.getElem?_eq_some_iff.1 hci
    rw [hl.len] at hlt; exact hlt
   refine ⟨k, uu.cells.toList[off + i], rfl, List.getElem?_eq_getElem hlt, ?_⟩
   have := hl.at_ (off + i) _ _ hci (List.getElem?_eq_getElem hlt)
   generalize uu.cells.toList[off + i] = q at this
   cases this; rfl
  refine ⟨.slice (some ⟨a, base + off, none⟩) n n, ?_, ?_, rfl, rfl⟩
  · have : ¬ n = 0 := by omega
    simp [Instr.sliceAt, run_underlying hu, hb, run_sizeOf' hie, this, add_off, Instr.sureAddr]
  · refine .psl (fun i => uu.cells.toList.getD (off + i) undef) hlen ⟨Nat.le_refl _, fun h => by cases h⟩ (fun x hx => ?_) (fun i x hi => ?_) (fun _ => ⟨a, base + off, rfl, h2, fun i hi => ?_⟩)
    · obtain ⟨k, rfl⟩ := byteL_at k3 x hx
      have ha : isAggT P e = false := by unfold isAggT; rw [hue.1]
      simp only [expand, ha, cond_false, expandLeaf, hue.1, asI]
    · obtain ⟨k, q, rfl, hq, rfl⟩ := hat i x hi
      show VRel P om0 w Im noTh _ (uu.cells.toList.getD (off + i) undef)
      rw [List.getD_eq_getElem?_getD, hq]; exact .int
    · obtain ⟨k, q, hx, hq, rfl⟩ := hat i bs[i] (List.getElem?_eq_getElem (by omega))
      show (uu.cells.toList.getD (off + i) undef).cells.size = _ ∧ ∀ (d : Nat) (c : Value), (uu.cells.toList.getD (off + i) undef).cells[d]? = some c → _
      rw [List.getD_eq_getElem?_getD, hq]
      refine ⟨by rw [hue.2]; rfl, fun d c hd => ?_⟩
      cases d with
      | zero =>
       simp [Value.cells] at hd; subst hd
       rw [hue.2, Nat.mul_one, Nat.add_zero, Nat.add_assoc]
       exact h3 (off + i) _ (by simpa using hq)
      | succ d => simp [Value.cells] at hd
theorem bvals_at (es : List SV) : ∀ (n i j : Nat) (v : SV), (bvals es i n)[j]? = some v → j < n ∧ v = .int .u8 (asI (es.getD (i + j) .junk))
 | 0, i, j, v, h => by simp [bvals] at h
 | n + 1, i, 0, v, h => by simp [bvals] at h; exact ⟨by omega, h.symm⟩
 | n + 1, i, j + 1, v, h => by
  simp only [bvals, List.getElem?_cons_succ] at h
  obtain ⟨h1, h2⟩ := bvals_at es n (i + 1) j v h
  exact ⟨by omega, by rw [h2, show i + 1 + j = i + (j + 1) by omega]⟩
theorem bvals_len (es : List SV) : ∀ (n i : Nat), (bvals es i n).length = n
 | 0, i => rfl
 | n + 1, i => by simp [bvals, bvals_len es n (i + 1)]
theorem run_s2apX {t : TypeId} {x : SV} {nx nx' : Nat} {r : SV} {ups : List (Nat × Option Chunk)} {rs : List Nat} (hm : mrun h (s2apX P t x nx) = some (r, ups, nx', rs)) {u : Value} (hx : VRel P ω w Im θ x u) :
  ∃ v, (Instr.arrayAt t u).run P w = .ok v w ∧ VRel P ω w Im θ r v ∧ ups = [] ∧ nx' = nx := by
 unfold s2apX at hm
 split at hm
 case h_2 => simp [mrun] at hm
 rename_i n e e' es hu
 have hb0 := bif_fail hm; clear hm; obtain ⟨hk, hm⟩ := hb0
 simp only [Bool.and_eq_true] at hk
 obtain ⟨⟨k2, k5⟩, k4⟩ := hk
 have hee : e = e' := Nat.eq_of_beq_eq_true k5
 subst hee
 have hn : 1 ≤ n := by rwa [Nat.ble_eq] at k4
 have hue : P.underlying e = some (.int .u8) ∧ P.cellsOf e = 1 := by
  unfold byteT at k2
  split at k2
  · rename_i h1; exact ⟨h1, Nat.eq_of_beq_eq_true k2⟩
  · cases k2
 have hb0 := mrun_ite_fail' hm; clear hm; obtain ⟨hc, hm⟩ := hb0
 have hle : n ≤ es.length := of_decide_eq_true hc
 obtain ⟨rfl, rfl, rfl, rfl⟩ := mrun_done hm
 cases hx with
 | psl us h1 h0 h2 h3 h4 =>
  rename_i p m cap
  obtain ⟨a, off, rfl, hIm, hat⟩ := h4 (by omega)
  have hval : ∀ i, i < n → us i = .int .u8 (asI (es.getD i .junk)) := by
   intro i hi
   have hi' : i < es.length := by omega
   have hv := h3 i es[i] (by simp [hi'])
   have hex := h2 es[i] (List.getElem_mem _)
   have ha : isAggT P e = false := by unfold isAggT; rw [hue.1]
   unfold expand at hex
   rw [ha, cond_false] at hex
   unfold expandLeaf at hex
   rw [hue.1] at hex
   simp only at hex
   rw [List.getD_eq_getElem?_getD, List.getElem?_eq_getElem hi', Option.getD_some]
   rw [← hex] at hv
   rw [← hex]
   generalize us i = q at hv
   cases hv
   simp [asI]
  refine ⟨.pointer (some ⟨a, off, none⟩), ?_, ?_, rfl, rfl⟩
  · have : ¬ m < n := by omega
    simp [Instr.arrayAt, run_underlying hu, this]
  · refine .pel (u := .agg ((List.range n).map fun i => Value.int .u8 (asI (es.getD i .junk))).toArray) (base := off) ?_ hIm (fun d c hd => ?_)
    · refine .agg (by simp [bvals_len]) (fun i v u hv hu' => ?_)
      obtain ⟨q1, q2⟩ := bvals_at es n 0 i v hv
      rw [q2, Nat.zero_add]
      simp [q1] at hu'
      rw [← hu']
      exact .int
    · simp only [Value.cells, List.getElem?_toArray, List.getElem?_map] at hd
      by_cases hdn : d < n
      · simp [hdn] at hd
        obtain ⟨q1, q2⟩ := hat d (by omega)
        have := q2 0 c (by rw [hval d hdn, ← hd]; rfl)
        rw [hue.2, Nat.mul_one, Nat.add_zero] at this
        exact this
      · simp [hdn] at hd
theorem run_slcX {t : TypeId} {x : SV} {lo hi mx : Option SV} {nx nx' : Nat} {r : SV} {ups : List (Nat × Option Chunk)} {rs : List Nat} (hr : HRel P ω w Im θ h) (hm : mrun h (slcX P t x lo hi mx nx) = some (r, ups, nx', rs)) {u : Value} {ul uh um : Option Value} (hx : VRel P ω w Im θ x u)
  (l1 : lo = none → ul = none) (l2 : ∀ v, lo = some v → ∃ x, ul = some x ∧ VRel P ω w Im θ v x) (i1 : hi = none → uh = none) (i2 : ∀ v, hi = some v → ∃ x, uh = some x ∧ VRel P ω w Im θ v x) (m1 : mx = none → um = none) (m2 : ∀ v, mx = some v → ∃ x, um = some x ∧ VRel P ω w Im θ v x) :
  ∃ v, (Instr.sliceAt t u ul uh um).run P w = .ok v w ∧ VRel P ω w Im θ r v ∧ ups = [] ∧ nx' = nx := by
 unfold slcX at hm
 split at hm
 · obtain rfl := m1 rfl
   split at hm
   · -- a string
     rename_i s hu
     split at hm
     case h_2 => simp [mrun] at hm
     rename_i l hh hl' hh'
     have hb0 := mrun_ite_fail' hm; clear hm; obtain ⟨hc, hm⟩ := hb0
     simp only [Bool.and_eq_true, decide_eq_true_eq] at hc
     obtain ⟨⟨c1, c2⟩, c3⟩ := hc
     obtain ⟨rfl, rfl, rfl, rfl⟩ := mrun_done hm
     have bl := bound_rel hl' l1 l2
     have bh := bound_rel hh' i1 i2
     cases hx with
     | str hs =>
      rename_i bs
      rw [← bytes_size hs] at bh c3
      have hb := run_boundsA (P := P) (w := w) bl bh c1 c2 c3
      refine ⟨.string (bs.extract l.toNat hh.toNat), ?_, .str ?_, rfl, rfl⟩
      · simp [Instr.sliceAt, Instr.slice, run_underlying hu, hb]
      · rw [ByteArray.data_extract, Array.toList_extract, hs, List.extract_eq_take_drop]
   · -- known by content
     rename_i e e' es hu
     split at hm
     case h_2 => simp [mrun] at hm
     rename_i l hh hl' hh'
     have hb0 := bif_fail hm; clear hm; obtain ⟨hk, hm⟩ := hb0
     simp only [Bool.and_eq_true] at hk
     have : e = e' := Nat.eq_of_beq_eq_true hk.1
     subst this
     obtain ⟨ie, hie⟩ := known_info hk.2
     have hb0 := mrun_ite_fail' hm; clear hm; obtain ⟨hc, hm⟩ := hb0
     simp only [Bool.and_eq_true, decide_eq_true_eq] at hc
     obtain ⟨⟨c1, c2⟩, c3⟩ := hc
     obtain ⟨rfl, rfl, rfl, rfl⟩ := mrun_done hm
     have bl := bound_rel hl' l1 l2
     have bh := bound_rel hh' i1 i2
     have hx2 := hx
     cases hx with
     | psl us h1 h0 h2 h3 h4 =>
      rename_i p n cap
      rw [h1] at bh c3
      have hb := run_bounds (P := P) (w := w) bl bh c1 c2 c3 h0.1
      refine ⟨_, ?_, psl_part (l := l.toNat) (k := hh.toNat - l.toNat) hx2 (by omega), rfl, rfl⟩
      simp [Instr.sliceAt, Instr.slice, run_underlying hu, hb, run_sizeOf' hie]
   · -- a list that has grown
     rename_i e y sz k n hu
     split at hm
     case h_2 => simp [mrun] at hm
     rename_i l hh hl' hh'
     have hb0 := bif_fail hm; clear hm; obtain ⟨hk, hm⟩ := hb0
     simp only [Bool.and_eq_true] at hk
     have : sz = P.cellsOf e := Nat.eq_of_beq_eq_true hk.1
     subst this
     obtain ⟨ie, hie⟩ := known_info hk.2
     have hb0 := mrun_ite_fail' hm; clear hm; obtain ⟨hc, hm⟩ := hb0
     simp only [Bool.and_eq_true, decide_eq_true_eq] at hc
     obtain ⟨⟨c1, c2⟩, c3⟩ := hc
     obtain ⟨rfl, rfl, rfl, rfl⟩ := mrun_done hm
     have bl := bound_rel hl' l1 l2
     have bh := bound_rel hh' i1 i2
     cases hx with
     | qs hθ g1 g2 =>
      rename_i b N cap
      have hb := run_bounds (P := P) (w := w) bl bh c1 c2 c3 g2
      by_cases hcl : cap = l.toNat
      · have hz : hh.toNat - l.toNat = 0 := by omega
        refine ⟨.slice (some ⟨b, k * P.cellsOf e, none⟩) 0 0, ?_, .qsnil hz, rfl, rfl⟩
        subst hcl
        simp [Instr.sliceAt, Instr.slice, run_underlying hu, hb, run_sizeOf' hie, hz]
      · refine ⟨.slice (some ⟨b, (k + l.toNat) * P.cellsOf e, none⟩) (hh.toNat - l.toNat) (cap - l.toNat), ?_, .qs hθ ?_ (by omega), rfl, rfl⟩
        · simp [Instr.sliceAt, Instr.slice, run_underlying hu, hb, run_sizeOf' hie, hcl, add_off, Nat.add_mul]
        · have : k + l.toNat + (cap - l.toNat) = k + cap := by omega
          rw [this]; exact g1
     | qsnil h0 =>
      rename_i p
      subst h0
      have hb := run_bounds (P := P) (w := w) (cap := 0) bl bh c1 c2 c3 (Nat.le_refl _)
      have hl0 : l = 0 := by omega
      have hh0 : hh = 0 := by omega
      subst hl0
      subst hh0
      refine ⟨.slice p 0 0, ?_, .qsnil (by simp), rfl, rfl⟩
      simp [Instr.sliceAt, Instr.slice, run_underlying hu, hb, run_sizeOf' hie]
   · rename_i e hu
     split at hm
     case h_2 => simp [mrun] at hm
     rename_i l hh hl' hh'
     have hb0 := bif_fail hm; clear hm; obtain ⟨hk, hm⟩ := hb0
     obtain ⟨ie, hie⟩ := known_info hk
     have hb0 := mrun_ite_fail' hm; clear hm; obtain ⟨hc, hm⟩ := hb0
     simp only [Bool.and_eq_true, decide_eq_true_eq] at hc
     obtain ⟨rfl, rfl⟩ := hc
     obtain ⟨rfl, rfl, rfl, rfl⟩ := mrun_done hm
     have bl := bound_rel hl' l1 l2
     have bh := bound_rel hh' i1 i2
     cases hx
     have hb := run_bounds (P := P) (w := w) (n := 0) (cap := 0) bl bh (Int.le_refl _) (Int.le_refl _) (Int.le_refl _) (Nat.le_refl _)
     refine ⟨.slice none 0 0, ?_, .nils, rfl, rfl⟩
     simp [Instr.sliceAt, Instr.slice, run_underlying hu, hb, run_sizeOf' hie]
   · exact run_sliceArr hr hm hx l1 l2 i1 i2 (fun h => rfl)
   · rename_i n e v off hu
     split at hm
     · obtain rfl := l1 rfl
       obtain rfl := i1 rfl
       exact run_pelS hu hm hx
     · simp [mrun] at hm
   · simp [mrun] at hm
 · rename_i m
   obtain ⟨xm, rfl, hxm⟩ := m2 m rfl
   split at hm
   case h_2 => simp [mrun] at hm
   rename_i e l hh k hu hl' hh' hk'
   have hb0 := bif_fail hm; clear hm; obtain ⟨hk, hm⟩ := hb0
   simp only [Bool.and_eq_true] at hk
   obtain ⟨ie, hie⟩ := known_info hk.1
   have bl := bound_rel hl' l1 l2
   have bm0 : ∃ q, some xm = some (.int q k) := by
    cases m <;> simp only [boundS] at hk' <;> try (cases hk'; done)
    simp only [Option.some.injEq] at hk'
    subst hk'
    cases hxm
    exact ⟨_, rfl⟩
   have bh0 : ∃ q, uh = some (.int q hh) := by
    cases hi with
    | none => simp at hk
    | some v =>
     obtain ⟨x, rfl, hv⟩ := i2 v rfl
     cases v <;> simp only [boundS] at hh' <;> try (cases hh'; done)
     simp only [Option.some.injEq] at hh'
     subst hh'
     cases hv
     exact ⟨_, rfl⟩
   have hm2 := mrun_ite_either hm
   clear hm
   rcases hm2 with ⟨hc, hm⟩ | ⟨hc, hm⟩
   case inr => exact run_slc3X hu hie hm hx bl bh0 bm0
   simp only [Bool.and_eq_true, decide_eq_true_eq] at hc
   obtain ⟨⟨rfl, rfl⟩, rfl⟩ := hc
   have bm : ∃ kk, xm = .int kk 0 := by
    cases m <;> simp only [boundS] at hk' <;> try (cases hk'; done)
    simp only [Option.some.injEq] at hk'
    subst hk'
    cases hxm
    exact ⟨_, rfl⟩
   have bh : ∃ kk, uh = some (.int kk 0) := by
    cases hi with
    | none => simp at hk
    | some v =>
     obtain ⟨x, rfl, hv⟩ := i2 v rfl
     cases v <;> simp only [boundS] at hh' <;> try (cases hh'; done)
     simp only [Option.some.injEq] at hh'
     subst hh'
     cases hv
     exact ⟨_, rfl⟩
   obtain ⟨km, rfl⟩ := bm
   obtain ⟨kh, rfl⟩ := bh
   have hb : ∀ n cap, (Instr.sliceBounds true n cap ul (some (.int kh 0)) (some (.int km 0))).run P w = .ok (0, 0, 0) w := by
    intro n cap
    rcases bl with ⟨rfl, _⟩ | ⟨kl, rfl⟩ <;> simp [Instr.sliceBounds, Instr.sliceBound, asIntOf]
   have key : ∀ (p : Option Addr) (n cap : Nat), (Instr.sliceAt t (.slice p n cap) ul (some (.int kh 0)) (some (.int km 0))).run P w = .ok (.slice p 0 0) w := by
    intro p n cap
    simp [Instr.sliceAt, Instr.slice, run_underlying hu, hb, run_sizeOf' hie]
   split at hm
   · obtain ⟨rfl, rfl, rfl, rfl⟩ := mrun_done hm
     cases hx
     exact ⟨_, key _ _ _, .nils, rfl, rfl⟩
   · obtain ⟨rfl, rfl, rfl, rfl⟩ := mrun_done hm
     cases hx
     exact ⟨_, key _ _ _, .emp, rfl, rfl⟩
   · obtain ⟨rfl, rfl, rfl, rfl⟩ := mrun_done hm
     cases hx
     exact ⟨_, key _ _ _, .emp, rfl, rfl⟩
   · obtain ⟨rfl, rfl, rfl, rfl⟩ := mrun_done hm
     cases hx
     exact ⟨_, key _ _ _, .emp, rfl, rfl⟩
   · obtain ⟨rfl, rfl, rfl, rfl⟩ := mrun_done hm
     cases hx <;> exact ⟨_, key _ _ _, .emp, rfl, rfl⟩
   · obtain ⟨rfl, rfl, rfl, rfl⟩ := mrun_done hm
     cases hx <;> exact ⟨_, key _ _ _, .emp, rfl, rfl⟩
   · simp [mrun] at hm
/- Elements. -/
theorem run_indexAddrX {t : TypeId} {x ix : SV} {nx nx' : Nat} {r : SV} {ups : List (Nat × Option Chunk)} {rs : List Nat} (hm : mrun h (indexAddrX P t x ix nx) = some (r, ups, nx', rs)) {u ui : Value} (hx : VRel P ω w Im θ x u) (hi : VRel P ω w Im θ ix ui) :
  ∃ v, (Instr.indexAt t u ui).run P w = .ok v w ∧ VRel P ω w Im θ r v ∧ ups = [] ∧ nx' = nx := by
 unfold indexAddrX at hm
 split at hm
 · rename_i k i e e' es hu
   cases hi
   have hb0 := bif_fail hm; clear hm; obtain ⟨hk, hm⟩ := hb0
   simp only [Bool.and_eq_true] at hk
   have : e = e' := Nat.eq_of_beq_eq_true hk.1
   subst this
   obtain ⟨ie, hie⟩ := known_info hk.2
   obtain ⟨hb, rfl, rfl, rfl⟩ := mrun_ite_fail hm
   have hb' := inB_iff.1 hb
   cases hx with
   | psl us h1 h0 h2 h3 h4 =>
    rename_i p n cap
    have hil : i.toNat < es.length := by omega
    obtain ⟨a, off, rfl, ha, hc⟩ := h4 (by omega)
    obtain ⟨g1, g2⟩ := hc i.toNat (by omega)
    have hget : es[i.toNat]? = some es[i.toNat] := by simp [hil]
    refine ⟨.pointer (some ⟨a, off + i.toNat * P.cellsOf e + 0, none⟩), ?_, .pel ?_ ha g2, rfl, rfl⟩
    · have hin : 0 ≤ i ∧ i < (n : Int) := by omega
      simp [Instr.indexAt, asIntOf, run_underlying hu, hin, run_sizeOf' hie, add_off]
    · have : es.getD i.toNat .junk = es[i.toNat] := by simp [List.getD_eq_getElem?_getD, hget]
      rw [this, h2 _ (List.getElem_mem hil)]
      exact h3 _ _ hget
 · rename_i k i e y sz l n hu
   cases hi
   have hb0 := bif_fail hm; clear hm; obtain ⟨hk, hm⟩ := hb0
   simp only [Bool.and_eq_true] at hk
   have : sz = P.cellsOf e := Nat.eq_of_beq_eq_true hk.1
   subst this
   obtain ⟨ie, hie⟩ := known_info hk.2
   obtain ⟨hb, rfl, rfl, rfl⟩ := mrun_ite_fail hm
   have hb' := inB_iff.1 hb
   cases hx with
   | qs hθ g1 g2 =>
    rename_i b N cap
    refine ⟨.pointer (some ⟨b, (l + i.toNat) * P.cellsOf e + 0, none⟩), ?_, .qp hθ, rfl, rfl⟩
    simp [Instr.indexAt, asIntOf, run_underlying hu, hb', run_sizeOf' hie, add_off, Nat.add_mul]
   | qsnil h0 => exfalso; omega
 · rename_i k i n e v off hu
   cases hi
   have hb0 := bif_fail hm; clear hm; obtain ⟨hk, hm⟩ := hb0
   obtain ⟨ie, hie⟩ := known_info hk
   obtain ⟨hb, rfl, rfl, rfl⟩ := mrun_ite_fail hm
   have hb' := inB_iff.1 hb
   cases hx with
   | pel h1 h2 h3 =>
    refine ⟨_, ?_, .pel h1 h2 h3, rfl, rfl⟩
    simp [Instr.indexAt, asIntOf, run_underlying hu, Instr.sureAddr, hb', run_sizeOf' hie, add_off, Nat.add_assoc]
 · rename_i k i n e y sz l off hu
   cases hi
   have hb0 := bif_fail hm; clear hm; obtain ⟨hk, hm⟩ := hb0
   obtain ⟨ie, hie⟩ := known_info hk
   obtain ⟨hb, rfl, rfl, rfl⟩ := mrun_ite_fail hm
   have hb' := inB_iff.1 hb
   cases hx with
   | qp hθ =>
    refine ⟨_, ?_, .qp hθ, rfl, rfl⟩
    simp [Instr.indexAt, asIntOf, run_underlying hu, Instr.sureAddr, hb', run_sizeOf' hie, add_off, Nat.add_assoc]
 · simp [mrun] at hm
theorem run_loadVar_at {θ' : Th} {a base off : Nat} {us : List Value} {vs : List SV} {t : TypeId} {v : SV} (hmem : ∀ (d : Nat) (c : Value), us[d]? = some c → w.cell? ⟨a, base + d, none⟩ = some c) (hl : LRel P ω w Im θ' vs us) (hp : partS P t vs off = some v) :
  ∃ u, (loadVar t ⟨a, base + off, none⟩).run P w = .ok u w ∧ VRel P ω w Im θ' v u := by
 obtain ⟨u, hu, hc⟩ := part_val hl hp
 refine ⟨u, ?_, hu⟩
 have hun : ∃ d, P.underlying t = some d := by
  unfold partS at hp
  cases h : P.underlying t with
  | none => simp [h] at hp
  | some d => exact ⟨d, rfl⟩
 obtain ⟨d, hd⟩ := hun
 obtain ⟨i, hi⟩ := info_of_underlying hd
 rcases hc with ⟨h1, rfl, h2⟩ | ⟨h1, h2⟩
 · have hload := run_loadCells_list (P := P) w ⟨a, base + off, none⟩ ((us.drop off).take (P.cellsOf t)) (fun j v hj => by
     rw [List.getElem?_take] at hj
     split at hj
     · rw [List.getElem?_drop] at hj
       rw [add_off, Nat.add_assoc]
       exact hmem _ _ hj
     · cases hj)
   have hn : ((us.drop off).take (P.cellsOf t)).length = P.cellsOf t := by simp; omega
   rw [hn] at hload
   unfold loadVar
   simp [run_isAgg hd, h1, run_sizeOf' hi, hload]
 · have hc := hmem off u h2
   unfold loadVar
   simp [run_isAgg hd, h1, hc]
theorem VRel.names {θ' : Th} {v : SV} {u : Value} (hv : VRel P om0 w Im noTh v u) (hn : noOpq v = true) : VRel P ω w Im θ' v u := (VRel.om hv hn).mono (fun b hb => ⟨hb, rfl⟩) (fun x p hp => by simp [noTh] at hp)
theorem run_loadX {t : TypeId} {a : SV} {nx nx' : Nat} {r : SV} {ups : List (Nat × Option Chunk)} {rs : List Nat} (hr : HRel P ω w Im θ h) (hm : mrun h (loadX P t a nx) = some (r, ups, nx', rs)) {u : Value} (hx : VRel P ω w Im θ a u) :
  ∃ v, (Instr.loadAt t u).run P w = .ok v w ∧ VRel P ω w Im θ r v ∧ ups = [] ∧ nx' = nx := by
 unfold loadX at hm
 split at hm
 · rename_i v off
   split at hm
   case h_2 => simp [mrun] at hm
   rename_i cs hcs
   split at hm
   case h_2 => simp [mrun] at hm
   rename_i z hz
   have hb0 := bif_fail hm; clear hm; obtain ⟨hno, hm⟩ := hb0
   obtain ⟨rfl, rfl, rfl, rfl⟩ := mrun_done hm
   cases hx with
   | pel h1 h2 h3 =>
    rename_i uu a base
    obtain ⟨q, hq1, hq2⟩ := run_loadVar_at (t := t) (off := off) (us := uu.cells.toList) (fun d c hd => h3 d c (by simpa using hd)) (cells_rel h1 hcs) hz
    exact ⟨q, by simp [Instr.loadAt, Instr.sureAddr, hq1], hq2.names hno, rfl, rfl⟩
 · rename_i y sz k off
   have hb0 := get_run hm; clear hm; obtain ⟨c, rs', hy, hm, rfl⟩ := hb0
   cases c with
   | seq e es =>
    have hb0 := bif_fail hm; clear hm; obtain ⟨hk, hm⟩ := hb0
    have : sz = P.cellsOf e := Nat.eq_of_beq_eq_true hk
    subst this
    split at hm
    case h_2 => simp [mrun] at hm
    rename_i cs hcs
    split at hm
    case h_2 => simp [mrun] at hm
    rename_i z hz
    have hb0 := bif_fail hm; clear hm; obtain ⟨hno, hm⟩ := hb0
    obtain ⟨hb, rfl, rfl, rfl⟩ := mrun_ite_fail hm
    have hkl : k < es.length := of_decide_eq_true hb
    cases hx with
    | qp hθ =>
     rename_i b N
     rcases hr.at_ y _ hy with ⟨_, h3⟩ | ⟨b', N', ca, T, fr, us, h3, h4, h5, h6, h7, h8, h9⟩
     · rw [h3] at hθ; cases hθ
     · rw [hθ] at h3
       simp only [Option.some.injEq, Prod.mk.injEq] at h3
       obtain ⟨rfl, rfl⟩ := h3
       have hget : es[k]? = some es[k] := by simp [hkl]
       obtain ⟨g1, g2, g3⟩ := h9 k es[k] hget
       have hex : expand P e (es.getD k .junk) = es[k] := by
        have : es.getD k .junk = es[k] := by simp [List.getD_eq_getElem?_getD, hget]
        rw [this, h8 _ (List.getElem_mem hkl)]
       rw [hex] at hcs
       obtain ⟨q, hq1, hq2⟩ := run_loadVar_at (t := t) (a := b) (base := k * P.cellsOf e) (off := off) (us := (us k).cells.toList) (fun d c hd => by
        have := g3 d c (by simpa using hd)
        simp only [World.cell?, h4]
        simpa using this) (cells_rel g1 hcs) hz
       exact ⟨q, by simp [Instr.loadAt, Instr.sureAddr, hq1], hq2.names hno, rfl, rfl⟩
   | cells => simp [mrun] at hm
   | loopr => simp [mrun] at hm
   | mpc => simp [mrun] at hm
   | mpb => simp [mrun] at hm
 · simp [mrun] at hm
end
end Go.Am
/- The abstract machine: stores into lists, maps. -/
namespace Go.Am
variable {P : Program} {ω : Nat → Value}
theorem setRow_put {w : World} {b : Nat} {cs cs' : Array Value} {T : TypeId} {fr : Nat × Nat} (hb : w.heap[b]? = some (.cells cs T fr)) : w.setRow b cs' = w.putObj b (.cells cs' T fr) := by
 have hlt : b < w.heap.size := heap_lt hb
 have hv : w.heap[b] = .cells cs T fr := (Array.getElem?_eq_some_iff.1 hb).2
 unfold World.setRow World.putObj
 congr 1
 apply Array.ext
 · simp
 · intro i h1 h2
   simp only [Array.getElem_modify]
   by_cases h : b = i
   · subst h; simp [hv]
   · rw [if_neg h]; exact (Array.getElem_setIfInBounds_ne (by simpa using h2) h).symm
theorem seg_get {α : Type} (l vs : List α) (o : Nat) (h : o + vs.length ≤ l.length) (j : Nat) : (l.take o ++ vs ++ l.drop (o + vs.length))[j]? = if o ≤ j ∧ j < o + vs.length then vs[j - o]? else l[j]? := by
 have h1 : (l.take o).length = o := by simp; omega
 by_cases hj : j < o
 · rw [if_neg (by omega), List.append_assoc, List.getElem?_append_left (by omega), List.getElem?_take, if_pos hj]
 · by_cases hj2 : j < o + vs.length
   · rw [if_pos ⟨by omega, hj2⟩, List.append_assoc, List.getElem?_append_right (by omega), List.getElem?_append_left (by omega), h1]
   · rw [if_neg (by omega), List.getElem?_append_right (by simp; omega), List.getElem?_drop]
     congr 1
     simp; omega
section
variable {w : World} {Im : Nat → Prop} {θ : Th} {h : HpF}
theorem run_storeX {t : TypeId} {a v : SV} {nx nx' : Nat} {r : SV} {ups : List (Nat × Option Chunk)} {rs : List Nat} (hr : HRel P ω w Im θ h) (hm : mrun h (storeX P t a v nx) = some (r, ups, nx', rs)) {ua uv : Value} (hx : VRel P ω w Im θ a ua) (hv : VRel P ω w Im θ v uv) :
  ∃ w' Im', (Instr.storeAt t ua uv).run P w = .ok () w' ∧ r = .junk ∧ nx' = nx ∧ Ext (fun _ => False) h w Im θ (updF ups h) w' Im' θ ∧ HRel P ω w' Im' θ (updF ups h) := by
 unfold storeX at hm
 split at hm
 case h_2 => simp [mrun] at hm
 rename_i y sz k off
 have hb0 := bif_fail hm; clear hm; obtain ⟨hkt, hm⟩ := hb0
 obtain ⟨it, hit⟩ := known_info hkt
 have hb0 := get_run hm; clear hm; obtain ⟨c, rs', hy, hm, rfl⟩ := hb0
 cases c with
 | seq e es =>
  have hb0 := bif_fail hm; clear hm; obtain ⟨hk, hm⟩ := hb0
  have : sz = P.cellsOf e := Nat.eq_of_beq_eq_true hk
  subst this
  split at hm
  case h_2 => simp [mrun] at hm
  rename_i cs hcs
  obtain ⟨v', ys, rs1, hm, f1, f2, f3, f4⟩ := frzM_run hr hv hm
  split at hm
  case h_2 => simp [mrun] at hm
  rename_i vs hvs
  have hb0 := bif_fail hm; clear hm; obtain ⟨hk2, hm⟩ := hb0
  simp only [Bool.and_eq_true, Bool.not_eq_true'] at hk2
  split at hm
  case h_2 => simp [mrun] at hm
  rename_i cs' hcs'
  split at hm
  case h_2 => simp [mrun] at hm
  rename_i nw hnw
  have hb0 := bif_fail hm; clear hm; obtain ⟨hk3, hm⟩ := hb0
  simp only [Bool.and_eq_true] at hk3
  have hb0 := mrun_ite_fail' hm; clear hm; obtain ⟨hkl0, hm⟩ := hb0
  obtain ⟨rfl, rfl, rfl, rfl⟩ := mrun_done hm
  have hkl : k < es.length := of_decide_eq_true hkl0
  have hvl : vs.length = P.cellsOf t := Nat.eq_of_beq_eq_true hk2.1
  have hys : y ∉ ys := fun hh => by rw [(memN_iff' _ _).2 hh] at hk2; exact absurd hk2.2 (by simp)
  have hcl : cs'.length = P.cellsOf e := Nat.eq_of_beq_eq_true hk3.2
  obtain ⟨hE1, hH1⟩ := drop_step hr (new := fun _ => False) ys
  have hy1 : updF (drops ys) h y = some (.seq e es) := updF_drops_some.2 ⟨hys, hy⟩
  cases hx with
  | qp hθ =>
   rename_i b N
   rcases hH1.at_ y _ hy1 with ⟨_, h3⟩ | ⟨b', N', ca, T, fr, us, h3, h4, h5, h6, h7, h8, h9⟩
   · rw [h3] at hθ; cases hθ
   · rw [hθ] at h3
     simp only [Option.some.injEq, Prod.mk.injEq] at h3
     obtain ⟨rfl, rfl⟩ := h3
     have hget : es[k]? = some es[k] := by simp [hkl]
     obtain ⟨g1, g2, g3⟩ := h9 k es[k] hget
     have hex : expand P e (es.getD k .junk) = es[k] := by
      have : es.getD k .junk = es[k] := by simp [List.getD_eq_getElem?_getD, hget]
      rw [this, h8 _ (List.getElem_mem hkl)]
     rw [hex] at hcs
     obtain ⟨hle, rfl⟩ := splice_spec _ _ _ _ hcs'
     have hcr := cells_rel g1 hcs
     have hvr := cells_rel f1 hvs
     have hul : uv.cells.toList.length = vs.length := hvr.len.symm
     have hcsl : cs.length = P.cellsOf e := by
      have h1 := hcr.len
      simp only [Array.length_toList] at h1
      omega
     have hkb : (k + 1) * P.cellsOf e ≤ es.length * P.cellsOf e := Nat.mul_le_mul_right _ hkl
     have hkb2 : (k + 1) * P.cellsOf e = k * P.cellsOf e + P.cellsOf e := by rw [Nat.add_mul]; omega
     have hone : ∀ u ∈ uv.cells.toList, u.oneCell' = true := hvr.one (oneS_one hvs)
     have hroom : k * P.cellsOf e + off + uv.cells.toList.length ≤ ca.size := by omega
     have hst := run_storeCells_fine P b (k * P.cellsOf e + off) T fr uv.cells.toList 0 ca w h4 h5 (by simpa using hroom) hone
     simp only [Nat.add_zero] at hst
     generalize hcells : (ca.toList.take (k * P.cellsOf e + off) ++ uv.cells.toList ++ ca.toList.drop (k * P.cellsOf e + off + uv.cells.toList.length)).toArray = cells at hst
     have hcsz : cells.size = ca.size := by
      rw [← hcells]
      simp only [List.size_toArray, List.length_append, List.length_take, List.length_drop, Array.length_toList] at hroom ⊢
      omega
     rw [setRow_put h4] at hst
     -- the new element
     have hnl := ((hcr.takeL off).append hvr).append (hcr.dropL (off + vs.length))
     have hnew : ∃ u', VRel P om0 w (frozenBy Im θ h ys) noTh nw u' ∧ u'.cells.size = P.cellsOf e ∧ ∀ (d : Nat) (c : Value), u'.cells[d]? = some c → ((us k).cells.toList.take off ++ uv.cells.toList ++ (us k).cells.toList.drop (off + vs.length))[d]? = some c := by
      cases ha : isAggT P e with
      | true =>
       rw [ha] at hnw
       simp only [cond_true, Option.some.injEq] at hnw
       subst hnw
       refine ⟨.agg ((us k).cells.toList.take off ++ uv.cells.toList ++ (us k).cells.toList.drop (off + vs.length)).toArray, .agg (by simpa using hnl.len) (fun i v u hv hu => hnl.at_ i v u hv (by simpa using hu)), ?_, fun d c hd => by simpa [Value.cells] using hd⟩
       have := hnl.len
       rw [hcl] at this
       simpa [Value.cells] using this.symm
      | false =>
       rw [ha] at hnw
       simp only [cond_false] at hnw
       cases h1 : Nat.beq (P.cellsOf e) 1 with
       | false => simp [h1] at hnw
       | true =>
        simp only [h1, cond_true, nth?_eq] at hnw
        have h1' : P.cellsOf e = 1 := Nat.eq_of_beq_eq_true h1
        have hlen2 := hnl.len
        rw [hcl, h1'] at hlen2
        obtain ⟨u', hu'⟩ : ∃ u', ((us k).cells.toList.take off ++ uv.cells.toList ++ (us k).cells.toList.drop (off + vs.length))[0]? = some u' := by
         rw [List.getElem?_eq_getElem (by omega)]; exact ⟨_, rfl⟩
        have hrel := hnl.at_ 0 nw u' hnw hu'
        have hf := hk3.1
        unfold fits at hf
        rw [ha] at hf
        simp only [cond_false] at hf
        have hc1 := cells_one (one_of_oneS hrel (expandLeaf_fits hf).2)
        refine ⟨u', hrel, by rw [hc1, h1']; rfl, fun d c hd => ?_⟩
        rw [hc1] at hd
        cases d with
        | zero => simp at hd; subst hd; exact hu'
        | succ d => simp at hd
     obtain ⟨u', n1, n2, n3⟩ := hnew
     have hfn := (fits_free (ω' := om0) (θ' := noTh) hk3.1 n1).2
     obtain ⟨hE2, hH2⟩ := put_block hH1 hy1 hθ (.cells cells T fr) (some (.seq e (es.set k nw))) (fun hI d hd => by
      cases hd
      refine .inr ⟨b, N, cells, T, fr, fun i => if i = k then u' else us i, hθ, World.putObj_heap_same (heap_lt h4), by rw [hcsz]; exact h5, ⟨by rw [hcsz, h6.1], h6.2⟩, by simpa using h7, fun v hv => ?_, fun i v hv => ?_⟩
      · rcases List.mem_or_eq_of_mem_set hv with hv | rfl
        · exact h8 v hv
        · exact hfn
      · rw [List.getElem?_set] at hv
        by_cases hik : k = i
        · subst hik
          rw [if_pos rfl, if_pos hkl, Option.some.injEq] at hv
          subst hv
          simp only [if_true]
          refine ⟨n1.mono hI (fun _ _ h => h), n2, fun d c hd => ?_⟩
          have hdl : d < P.cellsOf e := by
           rw [← n2]
           rcases Nat.lt_or_ge d u'.cells.size with h1 | h1
           · exact h1
           · simp [Array.getElem?_eq_none h1] at hd
          have := n3 d c hd
          rw [← hul] at this
          rw [seg_get _ _ _ (by simp only [Array.length_toList]; have := hcr.len; simp only [Array.length_toList] at this; omega)] at this
          rw [← hcells]
          simp only [List.getElem?_toArray]
          rw [seg_get _ _ _ (by simpa using hroom)]
          by_cases hc : off ≤ d ∧ d < off + uv.cells.toList.length
          · rw [if_pos hc] at this
            rw [if_pos (by omega)]
            rw [← this]; congr 1; omega
          · rw [if_neg hc] at this
            rw [if_neg (by omega)]
            simpa using g3 d c (by simpa using this)
        · rw [if_neg hik] at hv
          have hik' : ¬ i = k := fun e => hik e.symm
          simp only [if_neg hik']
          obtain ⟨q1, q2, q3⟩ := h9 i v hv
          refine ⟨q1.mono hI (fun _ _ h => h), q2, fun d c hd => ?_⟩
          have hdl : d < P.cellsOf e := by
           rw [← q2]
           rcases Nat.lt_or_ge d (us i).cells.size with h1 | h1
           · exact h1
           · simp [Array.getElem?_eq_none h1] at hd
          rw [← hcells]
          simp only [List.getElem?_toArray]
          rw [seg_get _ _ _ (by simpa using hroom), if_neg]
          · simpa using q3 d c hd
          · intro hc
            rcases Nat.lt_or_gt_of_ne hik' with h1 | h1
            · have : (i + 1) * P.cellsOf e ≤ k * P.cellsOf e := Nat.mul_le_mul_right _ h1
              rw [Nat.add_mul] at this
              omega
            · have : (k + 1) * P.cellsOf e ≤ i * P.cellsOf e := Nat.mul_le_mul_right _ h1
              rw [Nat.add_mul] at this
              omega)
     have hsz : (sizeOf t).run P w = .ok (P.cellsOf t) w := run_sizeOf' hit w
     refine ⟨w.putObj b (.cells cells T fr), frozenBy Im θ h ys, ?_, rfl, rfl, by rw [updF_app]; exact hE1.trans hE2, by rw [updF_app]; exact hH2⟩
     simp [Instr.storeAt, Instr.sureAddr, storeVar, hsz, f3, hst]
 | cells => simp [mrun] at hm
 | loopr => simp [mrun] at hm
 | mpc => simp [mrun] at hm
 | mpb => simp [mrun] at hm
/- Maps. -/
theorem findM_run {key : SV} {hit : Nat → OpM} {miss : OpM} {res : SV × List (Nat × Option Chunk) × Nat × List Nat} : ∀ (xs : List SV) (i : Nat), mrun h (findM key hit miss xs i) = some res →
  (∃ j x, xs[j]? = some x ∧ keyEq key x = some true ∧ (∀ j' x', j' < j → xs[j']? = some x' → keyEq key x' = some false) ∧ mrun h (hit (i + j)) = some res) ∨ ((∀ x ∈ xs, keyEq key x = some false) ∧ mrun h miss = some res)
 | [], i, hm => .inr ⟨(fun x hx => by cases hx), hm⟩
 | x :: xs, i, hm => by
  simp only [findM] at hm
  cases hk : keyEq key x with
  | none => simp [hk, mrun] at hm
  | some b =>
   simp only [hk, mrun] at hm
   cases b with
   | true => exact .inl ⟨0, x, rfl, hk, fun j' x' hj => by omega, by simpa using hm⟩
   | false =>
    simp only [Bool.false_eq_true, if_false] at hm
    rcases findM_run xs (i + 1) hm with ⟨j, y, h1, h2, h3, h4⟩ | ⟨h1, h2⟩
    · refine .inl ⟨j + 1, y, by simpa using h1, h2, fun j' x' hj hx => ?_, by rw [show i + (j + 1) = i + 1 + j by omega]; exact h4⟩
      cases j' with
      | zero => simp at hx; subst hx; exact hk
      | succ j' => exact h3 j' x' (by omega) (by simpa using hx)
    · refine .inr ⟨fun y hy => ?_, h2⟩
      rcases List.mem_cons.1 hy with rfl | hy
      · exact hk
      · exact h1 y hy
theorem keyT_is {kt : TypeId} {k : SV} (hk : keyT P kt k = true) {u : Value} (hv : VRel P ω w Im θ k u) : ∃ d, P.underlying kt = some d ∧ MapKept.IsKey d u := by
 unfold keyT at hk
 split at hk
 · rename_i a b n hu
   cases hv
   have : a = b := by cases a <;> cases b <;> first | rfl | (simp [ikEq] at hk)
   subst this
   exact ⟨_, hu, by simp [MapKept.IsKey]⟩
 · rename_i hu; cases hv; exact ⟨_, hu, by simp [MapKept.IsKey]⟩
 · rename_i hu; cases hv; exact ⟨_, hu, by simp [MapKept.IsKey]⟩
 · cases hk
theorem keyEq_now {d : TypeDesc} {k x : SV} {u v : Value} {b : Bool} (hu : VRel P ω w Im θ k u) (hv : VRel P ω w Im θ x v) (hk : MapKept.IsKey d u) (h : keyEq k x = some b) : Instr.sameNow d u v = some b ∧ (b = true → u = v) := by
 unfold keyEq at h
 split at h
 · rename_i k1 a k2 c
   cases hu
   cases hv
   cases hb : ikEq k1 k2 with
   | false => simp [hb] at h
   | true =>
    have : k1 = k2 := by cases k1 <;> cases k2 <;> first | rfl | (simp [ikEq] at hb)
    subst this
    simp only [hb, cond_true, Option.some.injEq] at h
    subst h
    cases d <;> simp [MapKept.IsKey] at hk
    subst hk
    exact ⟨by simp [Instr.sameNow], fun h => by simp at h; rw [h]⟩
 · rename_i a c
   cases hu with
   | str h1 =>
    cases hv with
    | str h2 =>
     rename_i s1 s2
     simp only [Option.some.injEq] at h
     subst h
     cases d <;> simp [MapKept.IsKey] at hk
     have hiff : (s1 == s2) = (a == c) := by
      rw [Bool.eq_iff_iff, MapKept.bytes_beq]
      simp only [beq_iff_eq]
      rw [← h1, ← h2]
      constructor
      · intro e; rw [e]
      · intro e
        obtain ⟨x⟩ := s1
        obtain ⟨y⟩ := s2
        congr 1
        exact Array.ext' e
     refine ⟨by simp [Instr.sameNow, hiff], fun h => ?_⟩
     rw [← hiff, MapKept.bytes_beq] at h
     rw [h]
 · rename_i a c
   cases hu
   cases hv
   simp only [Option.some.injEq] at h
   subst h
   cases d <;> simp [MapKept.IsKey] at hk
   exact ⟨by simp [Instr.sameNow], fun h => by simp at h; rw [h]⟩
 · cases h
theorem findNow_hit {d : TypeDesc} {k : SV} {u : Value} (hu : VRel P ω w Im θ k u) (hk : MapKept.IsKey d u) : ∀ (es : List MapEntry) (ks : List SV) (i j : Nat) (x : SV), LRel P ω w Im θ ks (es.map (·.key)) → ks[j]? = some x → keyEq k x = some true → (∀ j' x', j' < j → ks[j']? = some x' → keyEq k x' = some false) →
  ∃ e, es[j]? = some e ∧ e.key = u ∧ Instr.findNow d u es i = some (some (i + j, e.val))
 | [], ks, i, j, x, hl, hj, _, _ => by have := hl.len; simp at this; subst this; simp at hj
 | e :: es, [], i, j, x, hl, hj, _, _ => by simp at hj
 | e :: es, k0 :: ks, i, j, x, hl, hj, ht, hf => by
  have h0 := hl.at_ 0 k0 e.key rfl rfl
  have hl' : LRel P ω w Im θ ks (es.map (·.key)) := ⟨by have := hl.len; simpa using this, fun i v u hv hu => hl.at_ (i + 1) v u (by simpa using hv) (by simpa using hu)⟩
  cases j with
  | zero =>
   simp at hj
   subst hj
   obtain ⟨h1, h2⟩ := keyEq_now hu h0 hk ht
   exact ⟨e, rfl, (h2 rfl).symm, by simp [Instr.findNow, h1]⟩
  | succ j =>
   obtain ⟨h1, _⟩ := keyEq_now hu h0 hk (hf 0 k0 (by omega) rfl)
   obtain ⟨e', g1, g2, g3⟩ := findNow_hit hu hk es ks (i + 1) j x hl' (by simpa using hj) ht (fun j' x' hj' hx' => hf (j' + 1) x' (by omega) (by simpa using hx'))
   refine ⟨e', by simpa using g1, g2, ?_⟩
   simp only [Instr.findNow, h1, g3]
   congr 3
   omega
theorem findNow_miss {d : TypeDesc} {k : SV} {u : Value} (hu : VRel P ω w Im θ k u) (hk : MapKept.IsKey d u) : ∀ (es : List MapEntry) (ks : List SV) (i : Nat), LRel P ω w Im θ ks (es.map (·.key)) → (∀ x ∈ ks, keyEq k x = some false) → Instr.findNow d u es i = some none
 | [], ks, i, hl, _ => rfl
 | e :: es, [], i, hl, _ => by have := hl.len; simp at this
 | e :: es, k0 :: ks, i, hl, hf => by
  have h0 := hl.at_ 0 k0 e.key rfl rfl
  have hl' : LRel P ω w Im θ ks (es.map (·.key)) := ⟨by have := hl.len; simpa using this, fun i v u hv hu => hl.at_ (i + 1) v u (by simpa using hv) (by simpa using hu)⟩
  obtain ⟨h1, _⟩ := keyEq_now hu h0 hk (hf k0 (by simp))
  simp only [Instr.findNow, h1]
  exact findNow_miss hu hk es ks (i + 1) hl' (fun x hx => hf x (by simp [hx]))
theorem setN_eq {α : Type} : ∀ (l : List α) (i : Nat) (v : α), setN l i v = l.set i v
 | [], _, _ => rfl
 | _ :: _, 0, _ => rfl
 | x :: l, i + 1, v => by simp [setN, setN_eq l i v]
theorem sameBits_key {d : TypeDesc} {u : Value} (hk : MapKept.IsKey d u) : Instr.sameBits 10000 u u = true := by
 have : (10000 : Nat) = 9999 + 1 := rfl
 rw [this]
 cases d <;> cases u <;> simp [MapKept.IsKey] at hk <;> simp [Instr.sameBits]
 exact (MapKept.bytes_beq _ _).2 rfl
theorem run_mapSetX0 {t : TypeId} {m k v : SV} {nx nx' : Nat} {r : SV} {ups : List (Nat × Option Chunk)} {rs : List Nat} (hr : HRel P ω w Im θ h) (hm : mrun h (mapSetX0 P t m k v nx) = some (r, ups, nx', rs)) {um uk uv : Value} (h1 : VRel P ω w Im θ m um) (h2 : VRel P ω w Im θ k uk) (h3 : VRel P ω w Im θ v uv) :
  ∃ w', (Instr.mapUpdate t um uk uv).run P w = .ok () w' ∧ r = .junk ∧ nx' = nx ∧ Ext (fun _ => False) h w Im θ (updF ups h) w' Im θ ∧ HRel P ω w' Im θ (updF ups h) := by
 unfold mapSetX0 at hm
 split at hm
 case h_2 => simp [mrun] at hm
 rename_i kt et y hu
 have hb0 := bif_fail hm; clear hm; obtain ⟨hkt, hm⟩ := hb0
 obtain ⟨d, hd, hkey⟩ := keyT_is hkt h2
 have hb0 := get_run hm; clear hm; obtain ⟨c, rs', hy, hm, rfl⟩ := hb0
 cases c with
 | mpc ks vs =>
  have hb0 := bif_fail hm; clear hm; obtain ⟨hlen0, hm⟩ := hb0
  have hlen : ks.length = vs.length := Nat.eq_of_beq_eq_true hlen0
  cases h1 with
  | mp hθ =>
   rename_i b N
   obtain ⟨b', N', es, cl, g1, g2, g3, g4, g5⟩ := hr.at_ y _ hy
   rw [hθ] at g1
   simp only [Option.some.injEq, Prod.mk.injEq] at g1
   obtain ⟨rfl, rfl⟩ := g1
   have hck := MapKept.run_checkKey (P := P) (w := w) hd hkey false 9999
   have hel : es.toList.length = vs.length := by have := g4.len; simp at this ⊢; omega
   rcases findM_run ks 0 hm with ⟨j, x, f1, f2, f3, hm2⟩ | ⟨f1, hm2⟩
   · obtain ⟨rfl, rfl, rfl, _⟩ := mrun_done hm2
     obtain ⟨e, e1, e2, e3⟩ := findNow_hit h2 hkey es.toList ks 0 j x g3 f1 f2 f3
     have hfk := MapKept.run_findKey (P := P) (w := w) hd e3
     have hj : j < es.size := by
      rcases Nat.lt_or_ge j es.size with h5 | h5
      · exact h5
      · simp [Array.getElem?_eq_none h5] at e1
     have hej : es[j]? = some e := by simpa using e1
     have hsame : (Instr.keyThatStays (((es[j]?).map (·.key)).getD uk) uk).run P w = .ok uk w := by
      simp [hej, e2, Instr.keyThatStays, sameBits_key hkey]
     refine ⟨w.putObj b (.map (es.modify j fun e => { e with key := uk, val := uv }) cl), ?_, rfl, rfl, ?_⟩
     · have hset := MapKept.run_setObj_map (P := P) (.map (es.modify j fun e => { e with key := uk, val := uv }) cl) g2
       simp only [Nat.zero_add] at hfk
       have hck' : (Instr.checkKey false 10000 kt uk).run P w = .ok () w := hck
       simp [Instr.mapUpdate, run_underlying hu, MapKept.run_getObj_map g2, hck', hfk, hsame, hset, World.putObj]
     · refine put_block hr hy hθ _ _ (fun hI d hd => ?_)
       cases hd
       have hmod : (es.modify j fun e => { e with key := uk, val := uv }).toList = es.toList.set j { e with key := uk, val := uv } := by
        apply List.ext_getElem?
        intro i
        simp only [Array.getElem?_toList, Array.getElem?_modify, List.getElem?_set]
        by_cases hij : j = i
        · subst hij
          have hje : es[j] = e := (Array.getElem?_eq_some_iff.1 hej).2
          simp [hj, hje]
        · simp [hij]
       refine ⟨b, N, _, cl, hθ, World.putObj_heap_same (heap_lt g2), ?_, ?_, ?_⟩
       · rw [hmod, List.map_set]
         have : (es.toList.map (·.key)).set j uk = es.toList.map (·.key) := by
          apply List.ext_getElem?
          intro i
          rw [List.getElem?_set]
          by_cases hij : j = i
          · subst hij
            have hjl : j < (es.toList.map (·.key)).length := by simpa using hj
            rw [if_pos rfl, if_pos hjl]
            simp [hej, e2]
          · rw [if_neg hij]
         simp only [this]
         exact g3.mono hI (fun _ _ h => h)
       · rw [hmod, List.map_set]
         rw [Nat.zero_add, setN_eq]
         refine ⟨by simpa using g4.len, fun i v' u' hv hu' => ?_⟩
         rw [List.getElem?_set] at hv hu'
         by_cases hij : j = i
         · subst hij
           have h6 : j < vs.length := by have : j < es.toList.length := by simpa using hj
                                         omega
           have h7 : j < (es.toList.map (·.val)).length := by simpa using hj
           rw [if_pos rfl, if_pos h6, Option.some.injEq] at hv
           rw [if_pos rfl, if_pos h7, Option.some.injEq] at hu'
           subst hv; subst hu'
           exact h3.mono hI (fun _ _ h => h)
         · rw [if_neg hij] at hv hu'
           exact (g4.at_ i v' u' hv hu').mono hI (fun _ _ h => h)
       · intro x hx
         rw [hmod] at hx
         rcases List.mem_or_eq_of_mem_set hx with hx | rfl
         · exact g5 x hx
         · exact g5 e (List.mem_of_getElem? e1)
   · obtain ⟨rfl, rfl, rfl, _⟩ := mrun_done hm2
     have hfk := MapKept.run_findKey (P := P) (w := w) hd (findNow_miss h2 hkey es.toList ks 0 g3 f1)
     refine ⟨w.putObj b (.map (es.push { key := uk, val := uv, born := cl }) (cl + 1)), ?_, rfl, rfl, ?_⟩
     · have hset := MapKept.run_setObj_map (P := P) (.map (es.push { key := uk, val := uv, born := cl }) (cl + 1)) g2
       have hck' : (Instr.checkKey false 10000 kt uk).run P w = .ok () w := hck
       simp [Instr.mapUpdate, run_underlying hu, MapKept.run_getObj_map g2, hck', hfk, hset, World.putObj]
     · refine put_block hr hy hθ _ _ (fun hI d hd => ?_)
       cases hd
       have one : ∀ {v : SV} {u : Value}, VRel P ω w Im θ v u → LRel P ω w Im θ [v] [u] := fun hv => ⟨rfl, fun i v u h1 h2 => by
        cases i with
        | zero => simp at h1 h2; subst h1; subst h2; exact hv
        | succ i => simp at h1⟩
       refine ⟨b, N, _, cl + 1, hθ, World.putObj_heap_same (heap_lt g2), ?_, ?_, ?_⟩
       · simp only [Array.toList_push, List.map_append, List.map_cons, List.map_nil]
         exact (g3.append (one h2)).mono hI (fun _ _ h => h)
       · simp only [Array.toList_push, List.map_append, List.map_cons, List.map_nil]
         exact (g4.append (one h3)).mono hI (fun _ _ h => h)
       · intro x hx
         simp only [Array.toList_push, List.mem_append, List.mem_singleton] at hx
         rcases hx with hx | rfl
         · have := g5 x hx; omega
         · simp
 | cells => simp [mrun] at hm
 | loopr => simp [mrun] at hm
 | seq => simp [mrun] at hm
 | mpb => simp [mrun] at hm
theorem setN_app {α : Type} : ∀ (pre : List α) (x : α) (l : List α) (v : α), setN (pre ++ x :: l) pre.length v = pre ++ v :: l
 | [], _, _, _ => rfl
 | p :: pre, x, l, v => by simp [setN, setN_app pre x l v]
theorem findM_set {kd : IntKind} {a : Int} {b : Bool} {y nx : Nat} : ∀ (kvs : List (Int × Bool)) (pk pv : List SV), pk.length = pv.length →
  mrun h (findM (.int kd a) (fun i => .done .junk [(y, some (.mpc (pk ++ keysB kd kvs) (setN (pv ++ valsB kvs) i (.bool b))))] nx) (.done .junk [(y, some (.mpc ((pk ++ keysB kd kvs) ++ [.int kd a]) ((pv ++ valsB kvs) ++ [.bool b])))] nx) (keysB kd kvs) pk.length) =
   some (.junk, [(y, some (.mpc (pk ++ keysB kd (setB a b kvs)) (pv ++ valsB (setB a b kvs))))], nx, [])
 | [], pk, pv, hl => by simp [keysB, valsB, findM, mrun, setB]
 | (c, d) :: kvs, pk, pv, hl => by
  have ih := findM_set (kd := kd) (a := a) (b := b) (y := y) (nx := nx) kvs (pk ++ [.int kd c]) (pv ++ [.bool d]) (by simp [hl])
  have hik : ikEq kd kd = true := by cases kd <;> rfl
  have e1 : keysB kd ((c, d) :: kvs) = .int kd c :: keysB kd kvs := rfl
  have e2 : valsB ((c, d) :: kvs) = .bool d :: valsB kvs := rfl
  rw [e1, e2]
  simp only [findM, keyEq, hik, cond_true, mrun]
  cases hac : a == c with
  | true =>
   have : setB a b ((c, d) :: kvs) = (c, b) :: kvs := by simp [setB, hac]
   rw [this]
   simp only [if_true, hl, setN_app]
   rfl
  | false =>
   have : setB a b ((c, d) :: kvs) = (c, d) :: setB a b kvs := by simp [setB, hac]
   rw [this]
   simp only [Bool.false_eq_true, if_false]
   simp only [List.append_assoc, List.cons_append, List.nil_append, List.length_append, List.length_cons, List.length_nil, Nat.zero_add] at ih
   simp only [List.append_assoc]
   exact ih
theorem find_has {kd : IntKind} {a : Int} {kvs : List (Int × Bool)} : (hasB kvs a = false ∧ lookB kvs a = false ∧ ∀ x ∈ keysB kd kvs, keyEq (.int kd a) x = some false) ∨
  ∃ (j : Nat) (x : SV), hasB kvs a = true ∧ (keysB kd kvs)[j]? = some x ∧ keyEq (.int kd a) x = some true ∧ (∀ (j' : Nat) (x' : SV), j' < j → (keysB kd kvs)[j']? = some x' → keyEq (.int kd a) x' = some false) ∧ (valsB kvs)[j]? = some (SV.bool (lookB kvs a)) := by
 have hik : ikEq kd kd = true := by cases kd <;> rfl
 induction kvs with
 | nil => exact .inl ⟨rfl, rfl, fun x hx => by simp [keysB] at hx⟩
 | cons p kvs ih =>
  obtain ⟨c, d⟩ := p
  have e1 : keysB kd ((c, d) :: kvs) = .int kd c :: keysB kd kvs := rfl
  have e2 : valsB ((c, d) :: kvs) = .bool d :: valsB kvs := rfl
  rw [e1, e2]
  cases hac : a == c with
  | true => exact .inr ⟨0, _, by simp [hasB, hac], rfl, by simp [keyEq, hik, hac], fun j' x' hj => by omega, by simp [lookB, hac]⟩
  | false =>
   have hl : lookB ((c, d) :: kvs) a = lookB kvs a := by simp [lookB, hac]
   have hh : hasB ((c, d) :: kvs) a = hasB kvs a := by simp [hasB, hac]
   rw [hl, hh]
   rcases ih with ⟨h1, h2, h3⟩ | ⟨j, x, h1, h2, h3, h4, h5⟩
   · refine .inl ⟨h1, h2, fun x hx => ?_⟩
     rcases List.mem_cons.1 hx with rfl | hx
     · simp [keyEq, hik, hac]
     · exact h3 x hx
   · refine .inr ⟨j + 1, x, h1, by simpa using h2, h3, fun j' x' hj hx => ?_, by simpa using h5⟩
     cases j' with
     | zero => simp at hx; subst hx; simp [keyEq, hik, hac]
     | succ j' => exact h4 j' x' (by omega) (by simpa using hx)
theorem mpb_out {y : Nat} {kd : IntKind} {kvs : List (Int × Bool)} (hr : HRel P ω w Im θ h) (hy : h y = some (.mpb kd kvs)) : HRel P ω w Im θ (fun x => if x = y then some (.mpc (keysB kd kvs) (valsB kvs)) else h x) := by
 have hs : ∀ x c, (if x = y then some (.mpc (keysB kd kvs) (valsB kvs)) else h x) = some c → ∃ c0, h x = some c0 ∧ (CRel P ω w Im θ x c0 → CRel P ω w Im θ x c) := by
  intro x c hx
  by_cases e : x = y
  · subst e; rw [if_pos rfl] at hx; cases hx; exact ⟨_, hy, fun hc => hc⟩
  · rw [if_neg e] at hx; exact ⟨c, hx, fun hc => hc⟩
 refine ⟨fun x c hx => ?_, fun x z c c' b N N' hx hz h1 h2 => ?_, fun x c b N hx hb => ?_, hr.im⟩
 · obtain ⟨c0, h1, h2⟩ := hs x c hx
   exact h2 (hr.at_ x c0 h1)
 · obtain ⟨c0, h3, _⟩ := hs x c hx
   obtain ⟨c1, h4, _⟩ := hs z c' hz
   exact hr.inj x z c0 c1 b N N' h3 h4 h1 h2
 · obtain ⟨c0, h3, _⟩ := hs x c hx
   exact hr.own x c0 b N h3 hb
theorem run_mapSetX {t : TypeId} {m k v : SV} {nx nx' : Nat} {r : SV} {ups : List (Nat × Option Chunk)} {rs : List Nat} (hr : HRel P ω w Im θ h) (hm : mrun h (mapSetX P t m k v nx) = some (r, ups, nx', rs)) {um uk uv : Value} (h1 : VRel P ω w Im θ m um) (h2 : VRel P ω w Im θ k uk) (h3 : VRel P ω w Im θ v uv) :
  ∃ w', (Instr.mapUpdate t um uk uv).run P w = .ok () w' ∧ r = .junk ∧ nx' = nx ∧ Ext (fun _ => False) h w Im θ (updF ups h) w' Im θ ∧ HRel P ω w' Im θ (updF ups h) := by
 unfold mapSetX at hm
 split at hm
 case h_2 => simp [mrun] at hm
 rename_i kt et y hu
 have hb0 := bif_fail hm; clear hm; obtain ⟨hkt, hm⟩ := hb0
 obtain ⟨d, hd, hkey⟩ := keyT_is hkt h2
 have hb0 := get_run hm; clear hm; obtain ⟨c, rs', hy, hm, rfl⟩ := hb0
 have base : mrun h (mapSetX0 P t (.mp y) k v nx) = some (r, ups, nx', y :: rs') → ∃ w', (Instr.mapUpdate t um uk uv).run P w = .ok () w' ∧ r = .junk ∧ nx' = nx ∧ Ext (fun _ => False) h w Im θ (updF ups h) w' Im θ ∧ HRel P ω w' Im θ (updF ups h) :=
  fun hb => run_mapSetX0 hr hb h1 h2 h3
 cases c with
 | mpc ks vs =>
  refine base ?_
  unfold mapSetX0
  simp only [hu, hkt, cond_true, mrun, hy, hm]
 | mpb kd kvs =>
  simp only [] at hm
  split at hm
  case h_2 => simp [mrun] at hm
  rename_i kd' a b
  have hb0 := bif_fail hm; clear hm; obtain ⟨hik, hm⟩ := hb0
  have : kd' = kd := by cases kd' <;> cases kd <;> first | rfl | (simp [ikEq] at hik)
  subst this
  obtain ⟨rfl, rfl, rfl, _⟩ := mrun_done hm
  have h0 := run_mapSetX0 (h := fun x => if x = y then some (.mpc (keysB kd' kvs) (valsB kvs)) else h x) (t := t) (m := .mp y) (k := .int kd' a) (v := .bool b) (nx := nx) (nx' := nx) (r := .junk) (ups := [(y, some (.mpc (keysB kd' (setB a b kvs)) (valsB (setB a b kvs))))]) (rs := [y]) (um := um) (uk := uk) (uv := uv) (mpb_out hr hy) (by
   have hf := findM_set (h := fun x => if x = y then some (.mpc (keysB kd' kvs) (valsB kvs)) else h x) (kd := kd') (a := a) (b := b) (y := y) (nx := nx) kvs [] [] rfl
   simp only [List.nil_append, List.length_nil] at hf
   have hl : Nat.beq (keysB kd' kvs).length (valsB kvs).length = true := by simp [keysB, valsB]
   unfold mapSetX0
   simp only [hu, hkt, cond_true, mrun, if_true, hl, hf]) h1 h2 h3
  obtain ⟨w', g1, g2, g3, g4, g5⟩ := h0
  have hup : ∀ x c, updF [(y, some (.mpb kd' (setB a b kvs)))] h x = some c → ∃ c0, updF [(y, some (.mpc (keysB kd' (setB a b kvs)) (valsB (setB a b kvs))))] (fun x => if x = y then some (.mpc (keysB kd' kvs) (valsB kvs)) else h x) x = some c0 ∧ (CRel P ω w' Im θ x c0 → CRel P ω w' Im θ x c) := by
   intro x c hx
   simp only [updF] at hx ⊢
   by_cases e : x = y
   · subst e; rw [if_pos rfl] at hx ⊢; cases hx; exact ⟨_, rfl, fun hc => hc⟩
   · rw [if_neg e] at hx ⊢; rw [if_neg e]; exact ⟨c, hx, fun hc => hc⟩
  refine ⟨w', g1, rfl, rfl, ?_, ?_⟩
  · have hdom : ∀ x c, (fun x => if x = y then some (Chunk.mpc (keysB kd' kvs) (valsB kvs)) else h x) x = some c → ∃ c', h x = some c' := by
      intro x c hx
      by_cases e : x = y
      · subst e; exact ⟨_, hy⟩
      · simp only [if_neg e] at hx; exact ⟨c, hx⟩
    refine { thOld := g4.thOld, thUp := g4.thUp, imUp := g4.imUp, size := g4.size, os := g4.os, output := g4.output, tape := g4.tape, keep := fun b' hb hno => ?_, imNew := fun b' hb => .inl hb, ownNew := fun x c b' N hx hθ => ?_ }
    · refine g4.keep b' hb (fun x c N hx hθ => ?_)
      obtain ⟨c', hc'⟩ := hdom x c hx
      exact hno x c' N hc' hθ
    · obtain ⟨c0, h4, _⟩ := hup x c hx
      rcases g4.ownNew x c0 b' N h4 hθ with ⟨z, c', N', h5, h6⟩ | h5
      · obtain ⟨c2, hc2⟩ := hdom z c' h5
        exact .inl ⟨z, c2, N', hc2, h6⟩
      · exact .inr h5
  · refine ⟨fun x c hx => ?_, fun x z c c' b' N N' hx hz h4 h5 => ?_, fun x c b' N hx hb => ?_, g5.im⟩
    · obtain ⟨c0, h4, h5⟩ := hup x c hx
      exact h5 (g5.at_ x c0 h4)
    · obtain ⟨c0, h6, _⟩ := hup x c hx
      obtain ⟨c1, h7, _⟩ := hup z c' hz
      exact g5.inj x z c0 c1 b' N N' h6 h7 h4 h5
    · obtain ⟨c0, h6, _⟩ := hup x c hx
      exact g5.own x c0 b' N h6 hb
 | cells => simp [mrun] at hm
 | loopr => simp [mrun] at hm
 | seq => simp [mrun] at hm
theorem run_lookupX {t : TypeId} {m k : SV} {ok : Bool} {nx nx' : Nat} {r : SV} {ups : List (Nat × Option Chunk)} {rs : List Nat} (hr : HRel P ω w Im θ h) (hm : mrun h (lookupX P t m k ok nx) = some (r, ups, nx', rs)) {um uk : Value} (h1 : VRel P ω w Im θ m um) (h2 : VRel P ω w Im θ k uk) :
  ∃ v, (Instr.lookup t um uk ok).run P w = .ok v w ∧ VRel P ω w Im θ r v ∧ ups = [] ∧ nx' = nx := by
 have pair : ∀ {v : SV} {u : Value} (b : Bool), VRel P ω w Im θ v u → VRel P ω w Im θ (bif ok then .tup [v, .bool b] else v) (if ok = true then .tuple #[u, .bool b] else u) := by
  intro v u b hv
  cases ok with
  | false => simpa using hv
  | true =>
   refine .tup rfl (fun i x y hx hy => ?_)
   match i, hx, hy with
   | 0, hx, hy => cases hx; cases hy; exact hv
   | 1, hx, hy => cases hx; cases hy; exact .bool
 have hzero : ∀ {et : TypeId} {z : SV}, zeroS P et = some z → ∃ uz, (zeroValue et).run P w = .ok uz w ∧ VRel P ω w Im θ z uz := by
  intro et z hz
  unfold zeroS at hz
  cases hi : P.info? et with
  | none => simp [hi] at hz
  | some i =>
   simp only [hi] at hz
   cases hzz : i.zero with
   | none => simp [hzz] at hz
   | some zv =>
    simp only [hzz, Option.some.injEq] at hz
    subst hz
    exact ⟨zv, by simp [zeroValue, typeInfo, hi, hzz], ofValue_rel (ω := ω) w Im θ zv⟩
 unfold lookupX at hm
 split at hm
 · rename_i kt et y hu
   have hb0 := bif_fail hm; clear hm; obtain ⟨hkt, hm⟩ := hb0
   obtain ⟨d, hd, hkey⟩ := keyT_is hkt h2
   split at hm
   case h_2 => simp [mrun] at hm
   rename_i z hz
   obtain ⟨uz, hz1, hz2⟩ := hzero hz
   have hb0 := get_run hm; clear hm; obtain ⟨c, rs', hy, hm, rfl⟩ := hb0
   cases c with
   | mpc ks vs =>
    cases h1 with
    | mp hθ =>
     rename_i b N
     obtain ⟨b', N', es, cl, g1, g2, g3, g4, g5⟩ := hr.at_ y _ hy
     rw [hθ] at g1
     simp only [Option.some.injEq, Prod.mk.injEq] at g1
     obtain ⟨rfl, rfl⟩ := g1
     have hck : (Instr.checkKey es.isEmpty 10000 kt uk).run P w = .ok () w := MapKept.run_checkKey (P := P) (w := w) hd hkey es.isEmpty 9999
     rcases findM_run ks 0 hm with ⟨j, x, f1, f2, f3, hm2⟩ | ⟨f1, hm2⟩
     · obtain ⟨e, e1, e2, e3⟩ := findNow_hit h2 hkey es.toList ks 0 j x g3 f1 f2 f3
       have hfk := MapKept.run_findKey (P := P) (w := w) hd e3
       simp only [nth?_eq, Nat.zero_add] at hm2
       split at hm2
       case h_2 => simp [mrun] at hm2
       rename_i v hv
       obtain ⟨rfl, rfl, rfl, _⟩ := mrun_done hm2
       have hval := g4.at_ j v e.val hv (by simp [e1])
       refine ⟨_, ?_, pair true hval, rfl, rfl⟩
       simp [Instr.lookup, run_underlying hu, MapKept.run_getObj_map g2, hck, hfk]
     · obtain ⟨rfl, rfl, rfl, _⟩ := mrun_done hm2
       have hfk := MapKept.run_findKey (P := P) (w := w) hd (findNow_miss h2 hkey es.toList ks 0 g3 f1)
       refine ⟨_, ?_, pair false hz2, rfl, rfl⟩
       simp [Instr.lookup, run_underlying hu, MapKept.run_getObj_map g2, hck, hfk, hz1]
   | cells => simp [mrun] at hm
   | loopr => simp [mrun] at hm
   | seq => simp [mrun] at hm
   | mpb kd kvs =>
    cases h1 with
    | mp hθ =>
     rename_i b N
     simp only [] at hm
     split at hm
     case h_2 => simp [mrun] at hm
     rename_i kd' a
     have hb0 := bif_fail hm; clear hm; obtain ⟨hik, hm⟩ := hb0
     have : kd' = kd := by cases kd' <;> cases kd <;> first | rfl | (simp [ikEq] at hik)
     subst this
     obtain ⟨rfl, rfl, rfl, _⟩ := mrun_done hm
     obtain ⟨b', N', es, cl, g1, g2, g3, g4, g5⟩ := hr.at_ y _ hy
     rw [hθ] at g1
     simp only [Option.some.injEq, Prod.mk.injEq] at g1
     obtain ⟨rfl, rfl⟩ := g1
     have hck : (Instr.checkKey es.isEmpty 10000 kt uk).run P w = .ok () w := MapKept.run_checkKey (P := P) (w := w) hd hkey es.isEmpty 9999
     rcases find_has (kd := kd') (a := a) (kvs := kvs) with ⟨f0, f1, f2⟩ | ⟨j, x, f0, f1, f2, f3, f4⟩
     · have hfk := MapKept.run_findKey (P := P) (w := w) hd (findNow_miss h2 hkey es.toList (keysB kd' kvs) 0 g3 f2)
       rw [f0, f1]
       refine ⟨_, ?_, pair false hz2, rfl, rfl⟩
       simp [Instr.lookup, run_underlying hu, MapKept.run_getObj_map g2, hck, hfk, hz1]
     · obtain ⟨e, e1, e2, e3⟩ := findNow_hit h2 hkey es.toList (keysB kd' kvs) 0 j x g3 f1 f2 f3
       have hfk := MapKept.run_findKey (P := P) (w := w) hd e3
       have hval := g4.at_ j (.bool (lookB kvs a)) e.val f4 (by simp [e1])
       rw [f0]
       refine ⟨_, ?_, pair true hval, rfl, rfl⟩
       simp only [Nat.zero_add] at hfk
       simp [Instr.lookup, run_underlying hu, MapKept.run_getObj_map g2, hck, hfk]
 · rename_i kt et hu
   have hb0 := bif_fail hm; clear hm; obtain ⟨hkt, hm⟩ := hb0
   obtain ⟨d, hd, hkey⟩ := keyT_is hkt h2
   split at hm
   case h_2 => simp [mrun] at hm
   rename_i z hz
   obtain ⟨uz, hz1, hz2⟩ := hzero hz
   obtain ⟨rfl, rfl, rfl, rfl⟩ := mrun_done hm
   cases h1
   have hck : ∀ b, (Instr.checkKey b 10000 kt uk).run P w = .ok () w := fun b => MapKept.run_checkKey (P := P) (w := w) hd hkey b 9999
   have hfk := MapKept.run_findKey (P := P) (w := w) (k := uk) (l := []) (a := none) hd rfl
   refine ⟨_, ?_, pair false hz2, rfl, rfl⟩
   simp [Instr.lookup, run_underlying hu, hck, hfk, hz1]
 · simp [mrun] at hm
end
end Go.Am
/- The abstract machine: the further operations, each of them. -/
namespace Go.Am
variable {P : Program} {ω : Nat → Value}
section
variable {w : World} {Im : Nat → Prop} {θ : Th} {h : HpF}
theorem new_step {w' : World} (hr : HRel P ω w Im θ h) {nx : Nat} (hθ : θ nx = none) (hnx : h nx = none) {N : Nat} (hsz : w'.heap.size = w.heap.size + 1) (hold : ∀ d, d < w.heap.size → w'.heap[d]? = w.heap[d]?)
  (hos : w'.os = w.os) (hou : w'.output = w.output) (hta : w'.tape = w.tape) (c : Chunk)
  (hc : ∀ θ' : Th, θ' nx = some (w.heap.size, N) → CRel P ω w' (frozenBy Im θ h []) θ' nx c) :
  ∃ θ' Im' , Ext (fun x => nx ≤ x ∧ x < nx + 1) h w Im θ (updF [(nx, some c)] h) w' Im' θ' ∧ HRel P ω w' Im' θ' (updF [(nx, some c)] h) ∧ θ' nx = some (w.heap.size, N) := by
 obtain ⟨θ', h1, h2, h3⟩ := name_step hr hθ hnx (ds := []) (ys := []) (fun y hy => by cases hy) (w' := w') (b := w.heap.size) (N := N) (.inl ⟨Nat.le_refl _, by omega⟩) (by omega) (fun d _ hd => hold d hd) hos hou hta c (fun θ' a _ _ => hc θ' a)
 exact ⟨θ', _, by simpa [drops] using h1, by simpa [drops] using h2, h3⟩
theorem run_makeMapX {t kt et : TypeId} (_hu : P.underlying t = some (.map kt et)) (hr : HRel P ω w Im θ h) {nx : Nat} (hθ : θ nx = none) (hnx : h nx = none) :
  ∃ v w' θ' Im', (Instr.makeMap t none).run P w = .ok v w' ∧ Ext (fun x => nx ≤ x ∧ x < nx + 1) h w Im θ (updF [(nx, some (.mpc [] []))] h) w' Im' θ' ∧ VRel P ω w' Im' θ' (.mp nx) v ∧ HRel P ω w' Im' θ' (updF [(nx, some (.mpc [] []))] h) := by
 have nilL : ∀ {w : World} {Im : Nat → Prop} {θ : Th}, LRel P ω w Im θ [] [] := ⟨rfl, fun i v u h => by simp at h⟩
 obtain ⟨θ', Im', h1, h2, h3⟩ := new_step hr hθ hnx (w' := w.alloc (.map #[] 0)) (N := 0) (by simp) (fun d hd => alloc_old w _ d hd) rfl rfl rfl (.mpc [] []) (fun θ' a => ⟨_, _, #[], 0, a, alloc_new w _, nilL, nilL, fun e he => by simp at he⟩)
 exact ⟨.map (some w.heap.size), _, θ', Im', by simp [Instr.makeMap], h1, .mp h3, h2⟩
theorem run_makeMapB {t kt et : TypeId} {kd : IntKind} (_hu : P.underlying t = some (.map kt et)) (hr : HRel P ω w Im θ h) {nx : Nat} (hθ : θ nx = none) (hnx : h nx = none) :
  ∃ v w' θ' Im', (Instr.makeMap t none).run P w = .ok v w' ∧ Ext (fun x => nx ≤ x ∧ x < nx + 1) h w Im θ (updF [(nx, some (.mpb kd []))] h) w' Im' θ' ∧ VRel P ω w' Im' θ' (.mp nx) v ∧ HRel P ω w' Im' θ' (updF [(nx, some (.mpb kd []))] h) := by
 have nilL : ∀ {w : World} {Im : Nat → Prop} {θ : Th}, LRel P ω w Im θ [] [] := ⟨rfl, fun i v u h => by simp at h⟩
 obtain ⟨θ', Im', h1, h2, h3⟩ := new_step hr hθ hnx (w' := w.alloc (.map #[] 0)) (N := 0) (by simp) (fun d hd => alloc_old w _ d hd) rfl rfl rfl (.mpb kd []) (fun θ' a => ⟨_, _, #[], 0, a, alloc_new w _, nilL, nilL, fun e he => by simp at he⟩)
 exact ⟨.map (some w.heap.size), _, θ', Im', by simp [Instr.makeMap], h1, .mp h3, h2⟩
theorem fr_cells {y : Nat} {T : TypeId} {cs : List SV} (hr : HRel P ω w Im θ h) (hy : h y = some (.cells T cs)) : ∃ b, θ y = some (b, cs.length) ∧ w.shape? b = some (T, cs.length) := by
 obtain ⟨b, ca, fr, g1, g2, g3, g4⟩ := hr.at_ y _ hy
 refine ⟨b, g1, ?_⟩
 have := g4.len
 simp only [Array.length_toList] at this
 simp [World.shape?, g2, this]
theorem run_convU {s d : TypeId} {x : SV} {nx nx' : Nat} {r : SV} {ups : List (Nat × Option Chunk)} {rs : List Nat} (hr : HRel P ω w Im θ h) (hm : mrun h (convU P s d x nx) = some (r, ups, nx', rs)) {u : Value} (hx : VRel P ω w Im θ x u) :
  (convert s d u).run P w = .ok u w ∧ VRel P ω w Im θ r u ∧ ups = [] ∧ nx' = nx := by
 unfold convU at hm
 split at hm
 · rename_i t y o h1 h2
   cases hb : Nat.beq (P.cellsOf t) 0 with
   | true => rw [hb] at hm; simp [mrun] at hm
   | false =>
    rw [hb] at hm
    simp only [cond_false] at hm
    have hne : P.cellsOf t ≠ 0 := by intro e; rw [e] at hb; cases hb
    obtain ⟨i, hi⟩ := info_of_cells hne
    have hsz : i.size ≠ 0 := by simpa [Program.cellsOf, hi] using hne
    have hb0 := get_run hm; clear hm; obtain ⟨c, rs', hy, hm, rfl⟩ := hb0
    cases c <;> try (simp [mrun] at hm; done)
    rename_i T cs
    have hb0 := bif_fail hm; clear hm; obtain ⟨hlt, hm⟩ := hb0
    obtain ⟨rfl, rfl, rfl, -⟩ := mrun_done hm
    obtain ⟨b, g1, g2⟩ := fr_cells hr hy
    cases hx with
    | ptr hθ =>
     rw [g1] at hθ
     simp only [Option.some.injEq, Prod.mk.injEq] at hθ
     obtain ⟨rfl, rfl⟩ := hθ
     exact ⟨Lib.run_to_unsafe w _ h1 h2 hi hsz g2 (by rw [Nat.blt_eq] at hlt; exact hlt), .ptr g1, rfl, rfl⟩
 · rename_i t y o h1 h2
   have hb0 := get_run hm; clear hm; obtain ⟨c, rs', hy, hm, rfl⟩ := hb0
   cases c <;> try (simp [mrun] at hm; done)
   rename_i T cs
   have hb0 := bif_fail hm; clear hm; obtain ⟨hk, hm⟩ := hb0
   simp only [Bool.and_eq_true] at hk
   obtain ⟨i, hi⟩ := known_info hk.1
   obtain ⟨rfl, rfl, rfl, -⟩ := mrun_done hm
   obtain ⟨b, g1, g2⟩ := fr_cells hr hy
   cases hx with
   | ptr hθ =>
    rw [g1] at hθ
    simp only [Option.some.injEq, Prod.mk.injEq] at hθ
    obtain ⟨rfl, rfl⟩ := hθ
    exact ⟨Lib.run_from_unsafe w _ h1 h2 hi g2 hk.2, .ptr g1, rfl, rfl⟩
 · simp [mrun] at hm
theorem run_convX {s d : TypeId} {x : SV} {nx nx' : Nat} {r : SV} {ups : List (Nat × Option Chunk)} {rs : List Nat} (hr : HRel P ω w Im θ h) (hfr : ∀ x, nx ≤ x → x < nx' → θ x = none ∧ h x = none) (hm : mrun h (convX P s d x nx) = some (r, ups, nx', rs)) {u : Value} (hx : VRel P ω w Im θ x u) :
  ∃ v w' θ' Im', (convert s d u).run P w = .ok v w' ∧ Ext (fun x => nx ≤ x ∧ x < nx') h w Im θ (updF ups h) w' Im' θ' ∧ VRel P ω w' Im' θ' r v ∧ HRel P ω w' Im' θ' (updF ups h) := by
 unfold convX at hm
 split at hm
 · rename_i e h1 h2
   split at hm
   case h_2 => simp [mrun] at hm
   rename_i l hu
   have hb0 := bif_fail hm; clear hm; obtain ⟨hk, hm⟩ := hb0
   have h1c : P.cellsOf e = 1 := Nat.eq_of_beq_eq_true hk
   obtain ⟨rfl, rfl, rfl, rfl⟩ := mrun_done hm
   cases hx with
   | str hs =>
    rename_i bs
    have hrun := run_bytes_of_string (P := P) w s d e bs h1 h2 hu
    generalize hcells : bytesRow bs (grownCap w bs.size 0 e) = cells at hrun
    have hge := grownCap_ge w bs.size 0 e
    have hcs : cells.size = grownCap w bs.size 0 e := by
     rw [← hcells]
     have : bs.data.size = bs.size := rfl
     simp [bytesRow, this]
     omega
    have hls : l.length = bs.size := (bytes_size hs).symm
    obtain ⟨f1, f2⟩ := hfr nx (Nat.le_refl _) (Nat.lt_succ_self _)
    have hagg : isAggT P e = false := by simp [isAggT, hu]
    obtain ⟨θ', Im', g1, g2, g3⟩ := new_step hr f1 f2 (w' := w.drew.alloc (.cells cells e (cells.size, cells.size + 1))) (N := cells.size) (by simp) (fun d hd => alloc_old w.drew _ d hd) rfl rfl rfl (.seq e (l.map byteSV)) (fun θ' a => by
     refine .inr ⟨_, _, cells, e, _, fun i => .int .u8 ((l.getD i 0).toNat), a, alloc_new w.drew _, fun i hi hh => by simp only at hh; omega, ⟨rfl, rfl⟩, by rw [h1c, List.length_map]; omega, fun v hv => ?_, fun i v hv => ?_⟩
     · obtain ⟨b, _, rfl⟩ := List.mem_map.1 hv
       unfold expand
       rw [hagg]
       simp only [cond_false, expandLeaf, hu, byteSV, asI]
     · simp only [List.getElem?_map, Option.map_eq_some_iff] at hv
       obtain ⟨b, hb, rfl⟩ := hv
       have e1 : l.getD i 0 = b := by simp [List.getD_eq_getElem?_getD, hb]
       simp only [e1]
       refine ⟨.int, by simp [Value.cells, h1c], fun d c hd => ?_⟩
       cases d with
       | succ d => simp [Value.cells] at hd
       | zero =>
        simp [Value.cells] at hd
        subst hd
        have hil : i < l.length := by
         rcases Nat.lt_or_ge i l.length with h5 | h5
         · exact h5
         · simp [List.getElem?_eq_none h5] at hb
        have hib : i < bs.data.size := by show i < bs.size; omega
        have hbd : bs.data[i] = b := by
         have : bs.data.toList[i]? = some b := by rw [hs]; exact hb
         rw [Array.getElem?_toList, Array.getElem?_eq_getElem hib] at this
         exact Option.some.inj this
        rw [h1c, ← hcells]
        simp only [bytesRow, Nat.mul_one, Nat.add_zero]
        rw [Array.getElem?_append_left (by simpa using hib)]
        simp only [Array.getElem?_map, Option.map_eq_some_iff]
        exact ⟨b, by rw [Array.getElem?_eq_getElem hib, hbd], rfl⟩)
    refine ⟨_, _, θ', Im', hrun, g1, ?_, g2⟩
    have := VRel'.qs (P := P) (ω := ω) (w := w.drew.alloc (.cells cells e (cells.size, cells.size + 1))) (Im := Im') (θ := θ') (x := nx) (sz := 1) (l := 0) (n := bs.size) (cap := grownCap w bs.size 0 e) g3 (by rw [hcs]; simp) hge
    rw [hls]
    simpa using this
 · rename_i e h1 h2
   split at hm
   case h_2 => simp [mrun] at hm
   rename_i hu
   have hb0 := bif_fail hm; clear hm; obtain ⟨hk, hm⟩ := hb0
   simp only [Bool.and_eq_true] at hk
   have h1c : P.cellsOf e = 1 := Nat.eq_of_beq_eq_true hk.1
   have hagg : isAggT P e = false := by simp [isAggT, hu]
   split at hm
   · simp [mrun] at hm
   rename_i hns
   obtain ⟨es, zs, rs', uf, g1, g2, g3⟩ := elemsM_run hr hk.2 hx hm
   cases zs with
   | cons z zs => simp [mrun] at g1
   | nil =>
    simp only [] at g1
    obtain ⟨rfl, rfl, rfl, _⟩ := mrun_done g1
    have hint : ∀ i, i < es.length → ∃ n, uf i = .int .u8 n ∧ byteOf (es.getD i .junk) = UInt8.ofNat n.toNat := by
     intro i hi
     have hget : es[i]? = some es[i] := by simp [hi]
     obtain ⟨q1, q2⟩ := g2.rel i es[i] hget
     have q3 := g2.fit es[i] (List.getElem_mem hi)
     unfold expand at q3
     rw [hagg] at q3
     simp only [cond_false, expandLeaf, hu] at q3
     have hgd : es.getD i .junk = es[i] := by simp [List.getD_eq_getElem?_getD, hget]
     rw [hgd, ← q3]
     rw [← q3] at q1
     generalize uf i = z at q1
     cases q1
     exact ⟨_, rfl, rfl⟩
    have hflat : ∀ m, m ≤ es.length → ∃ ns : List Int, ns.length = m ∧ flat uf m = ns.map (Value.int .u8) ∧ ns.map (fun n => UInt8.ofNat n.toNat) = (es.map byteOf).take m := by
     intro m
     induction m with
     | zero => intro _; exact ⟨[], rfl, rfl, by simp⟩
     | succ m ih =>
      intro hm
      obtain ⟨ns, a1, a2, a3⟩ := ih (by omega)
      obtain ⟨n, b1, b2⟩ := hint m (by omega)
      have hml : m < (es.map byteOf).length := by simp; omega
      have hml' : m < es.length := by omega
      refine ⟨ns ++ [n], by simp [a1], by simp [flat, a2, b1, Value.cells], ?_⟩
      rw [List.map_append, a3, List.take_succ_eq_append_getElem hml]
      congr 1
      have hgd : es.getD m .junk = es[m] := by simp [List.getD_eq_getElem?_getD, hml']
      rw [hgd] at b2
      simp [b2]
    obtain ⟨ns, a1, a2, a3⟩ := hflat es.length (Nat.le_refl _)
    rw [← List.length_map (f := byteOf), List.take_length] at a3
    have hcells := g3.cells w rfl
    rw [a2] at hcells
    have hlen := g3.len w
    have hE : Ext (fun x => nx ≤ x ∧ x < nx) h w Im θ (updF [] h) w Im θ := Ext.refl _
    have fin : ∀ bs : ByteArray, bs.data.toList = es.map byteOf → (convert s d u).run P w = .ok (.string bs) w →
      ∃ v w' θ' Im', (convert s d u).run P w = .ok v w' ∧ Ext (fun x => nx ≤ x ∧ x < nx) h w Im θ (updF [] h) w' Im' θ' ∧ VRel P ω w' Im' θ' (.str (es.map byteOf)) v ∧ HRel P ω w' Im' θ' (updF [] h) :=
     fun bs hbs hrun => ⟨_, _, θ, Im, hrun, hE, .str hbs, hr⟩
    have sl : ∀ (p : Option Addr) (n cap : Nat), u = .slice p n cap → (convert s d u).run P w = .ok (.string (ns.foldl (fun r n => r.push (UInt8.ofNat n.toNat)) ByteArray.empty)) w := by
     intro p n cap hue
     subst hue
     rw [run_convert_bytes_string w s d e p n cap h1 hu h2]
     have hn : n = es.length := by simpa [Builtin.lenOf] using hlen
     subst hn
     cases p with
     | none =>
      simp only [Builtin.firstCells, Sem.run_pure, Result.ok.injEq, and_true] at hcells
      have : ns = [] := by
       have h9 := congrArg Array.size hcells
       simp at h9
       exact List.eq_nil_of_length_eq_zero (by omega)
      subst this
      simp [Conv.bytesToString]
     | some a =>
      simp only [Builtin.firstCells, h1c, Nat.mul_one] at hcells
      exact run_bytesToString w a _ cap ns hcells
    have hdata : (ns.foldl (fun r n => r.push (UInt8.ofNat n.toNat)) ByteArray.empty).data.toList = es.map byteOf := by
     rw [← a3]
     have key : ∀ (ns : List Int) (r : ByteArray), (ns.foldl (fun r n => r.push (UInt8.ofNat n.toNat)) r).data.toList = r.data.toList ++ ns.map (fun n => UInt8.ofNat n.toNat) := by
      intro ns
      induction ns with
      | nil => intro r; simp
      | cons n ns ih => intro r; rw [List.foldl_cons, ih]; simp [ByteArray.push]
     rw [key]
     rfl
    have hsl : ∃ p n cap, u = .slice p n cap := by
     cases hx <;> first
      | exact ⟨_, _, _, rfl⟩
      | (simp [elemsM, mrun] at hm; done)
      | (exact absurd rfl (hns _))
    obtain ⟨p, n, cap, hue⟩ := hsl
    exact fin _ hdata (sl p n cap hue)
 · obtain ⟨q1, q2, rfl, rfl⟩ := run_convU hr hm hx
   exact ⟨u, w, θ, Im, q1, Ext.refl _, q2, hr⟩
theorem run_lenX {t : TypeId} {x : SV} {nx nx' : Nat} {r : SV} {ups : List (Nat × Option Chunk)} {rs : List Nat} (hr : HRel P ω w Im θ h) (hm : mrun h (lenX P t x nx) = some (r, ups, nx', rs)) {tys : Array TypeId} {ty : TypeId} {us : Array Value} {u : Value} (h1 : tys[0]? = some t) (h2 : us[0]? = some u) (hx : VRel P ω w Im θ x u) :
  ∃ v, (Builtin.len_ tys ty us).run P w = .ok v w ∧ VRel P ω w Im θ r v ∧ ups = [] ∧ nx' = nx := by
 unfold lenX at hm
 split at hm
 · rename_i hu
   obtain ⟨rfl, rfl, rfl, rfl⟩ := mrun_done hm
   cases hx with
   | qs _ _ _ => exact ⟨_, by simp [Builtin.len_, h1, h2, run_underlying hu, goInt], .int, rfl, rfl⟩
   | qsnil h0 => subst h0; exact ⟨_, by simp [Builtin.len_, h1, h2, run_underlying hu, goInt], .int, rfl, rfl⟩
 · rename_i hu
   obtain ⟨rfl, rfl, rfl, rfl⟩ := mrun_done hm
   cases hx
   exact ⟨_, by simp [Builtin.len_, h1, h2, run_underlying hu, goInt], .int, rfl, rfl⟩
 · rename_i hu
   obtain ⟨rfl, rfl, rfl, rfl⟩ := mrun_done hm
   cases hx with
   | pnn h =>
    cases h with
    | psl us' e1 e0 e2 e3 e4 => exact ⟨_, by simp [Builtin.len_, h1, h2, run_underlying hu, goInt, e1], .int, rfl, rfl⟩
 · rename_i y hu
   have hb0 := get_run hm; clear hm; obtain ⟨c, rs', hy, hm, rfl⟩ := hb0
   cases c with
   | mpc ks vs =>
    obtain ⟨rfl, rfl, rfl, rfl⟩ := mrun_done hm
    cases hx with
    | mp hθ =>
     obtain ⟨b', N', es, cl, g1, g2, g3, g4, g5⟩ := hr.at_ y _ hy
     rw [hθ] at g1
     simp only [Option.some.injEq, Prod.mk.injEq] at g1
     obtain ⟨rfl, rfl⟩ := g1
     have := g3.len
     simp at this
     exact ⟨_, by simp [Builtin.len_, h1, h2, run_underlying hu, goInt, MapKept.run_getObj_map g2, ← this], .int, rfl, rfl⟩
   | mpb kd kvs =>
    obtain ⟨rfl, rfl, rfl, rfl⟩ := mrun_done hm
    cases hx with
    | mp hθ =>
     obtain ⟨b', N', es, cl, g1, g2, g3, g4, g5⟩ := hr.at_ y _ hy
     rw [hθ] at g1
     simp only [Option.some.injEq, Prod.mk.injEq] at g1
     obtain ⟨rfl, rfl⟩ := g1
     have := g3.len
     simp [keysB] at this
     exact ⟨_, by simp [Builtin.len_, h1, h2, run_underlying hu, goInt, MapKept.run_getObj_map g2, ← this], .int, rfl, rfl⟩
   | cells => simp [mrun] at hm
   | loopr => simp [mrun] at hm
   | seq => simp [mrun] at hm
 · simp [mrun] at hm
theorem run_minMaxX {mx : Bool} {x y : SV} {nx nx' : Nat} {r : SV} {ups : List (Nat × Option Chunk)} {rs : List Nat} (hm : mrun h (minMaxX mx x y nx) = some (r, ups, nx', rs)) {ux uy : Value} (hx : VRel P ω w Im θ x ux) (hy : VRel P ω w Im θ y uy) {tys : Array TypeId} {ty : TypeId} {us : Array Value} (hus : us.toList = [ux, uy]) :
  ∃ v, (bif mx then Builtin.max_ tys ty us else Builtin.min_ tys ty us).run P w = .ok v w ∧ VRel P ω w Im θ r v ∧ ups = [] ∧ nx' = nx := by
 unfold minMaxX at hm
 split at hm
 · rename_i k a k' b
   cases hx
   cases hy
   have hb0 := bif_fail hm; clear hm; obtain ⟨hk, hm⟩ := hb0
   cases mx with
   | true =>
    simp only [cond_true] at hm ⊢
    obtain ⟨rfl, rfl, rfl, rfl⟩ := mrun_done hm
    refine ⟨_, ?_, .int, rfl, rfl⟩
    simp only [Builtin.max_, hus, List.foldlM_cons, List.foldlM_nil, Builtin.max2, Sem.run_bind, Sem.run_pure, Result.andThen_ok]
    congr 2
    by_cases h : a < b
    · have h2 : decide (a < b) = true := by simpa using h
      simp [h]
    · simp [h]
   | false =>
    simp only [cond_false] at hm ⊢
    obtain ⟨rfl, rfl, rfl, rfl⟩ := mrun_done hm
    refine ⟨_, ?_, .int, rfl, rfl⟩
    simp only [Builtin.min_, hus, List.foldlM_cons, List.foldlM_nil, Builtin.min2, Sem.run_bind, Sem.run_pure, Result.andThen_ok]
    congr 2
    by_cases h : b < a
    · simp [h]
    · simp [h]
 · simp [mrun] at hm
end
end Go.Am
/- The abstract machine: strings over a row of bytes; functions without a body. -/
namespace Go.Am
variable {P : Program} {ω : Nat → Value}
section
variable {w : World} {Im : Nat → Prop} {θ : Th} {h : HpF}
theorem seq_bytes {e : TypeId} (hu : P.underlying e = some (.int .u8)) (h1c : P.cellsOf e = 1) {es : List SV} {cs : Array Value} {us : Nat → Value} (h8 : ∀ v ∈ es, expand P e v = v)
  (h9 : ∀ (i : Nat) (v : SV), es[i]? = some v → VRel P om0 w Im noTh v (us i) ∧ (us i).cells.size = P.cellsOf e ∧ ∀ (d : Nat) (c : Value), (us i).cells[d]? = some c → cs[i * P.cellsOf e + d]? = some c) :
  ∀ (i : Nat) (v : SV), es[i]? = some v → ∃ n : Int, cs[i]? = some (Value.int .u8 n) ∧ byteOf v = n.toNat.toUInt8 := by
 intro i v hv
 obtain ⟨q1, -, q2⟩ := h9 i v hv
 have q3 := h8 v (List.mem_of_getElem? hv)
 have hagg : isAggT P e = false := by simp [isAggT, hu]
 unfold expand at q3
 rw [hagg] at q3
 simp only [cond_false, expandLeaf, hu] at q3
 rw [← q3] at q1 ⊢
 generalize us i = z at q1 q2
 cases q1
 refine ⟨_, ?_, rfl⟩
 have := q2 0 (.int .u8 (asI v)) (by simp [Value.cells])
 simpa [h1c] using this
theorem load_seq {es : List SV} {cs : Array Value} {b : Nat} {T : TypeId} {fr : Nat × Nat} (hb : w.heap[b]? = some (.cells cs T fr)) (h : ∀ (i : Nat) (v : SV), es[i]? = some v → ∃ n : Int, cs[i]? = some (Value.int .u8 n) ∧ byteOf v = n.toNat.toUInt8) :
  ∀ m i acc, i + m = es.length → (loadBytes ⟨b, i, none⟩ acc m).run P w = .ok ⟨acc.data ++ ((es.drop i).map byteOf).toArray⟩ w
 | 0, i, acc, hm => by
  have : es.drop i = [] := List.drop_of_length_le (by omega)
  simp [loadBytes, this]
 | m + 1, i, acc, hm => by
  have hi : i < es.length := by omega
  obtain ⟨n, h1, h2⟩ := h i es[i] (by simp [hi])
  have hc : w.cell? ⟨b, i, none⟩ = some (.int .u8 n) := by simp [World.cell?, hb, h1]
  have ih := load_seq hb h m (i + 1) (acc.push n.toNat.toUInt8) (by omega)
  have ea : (⟨b, i, none⟩ : Addr).add 1 = ⟨b, i + 1, none⟩ := by simp [Addr.add]
  simp only [loadBytes, Sem.run_bind, run_load, hc, Result.andThen, ea]
  have e : ((es.drop i).map byteOf) = n.toNat.toUInt8 :: (es.drop (i + 1)).map byteOf := by rw [List.drop_eq_getElem_cons hi, List.map_cons, h2]
  rw [ih, e]
  congr 2
  apply Array.ext'
  simp [ByteArray.push, -List.map_drop]
theorem run_unsafeStrX {pt : TypeId} {p n : SV} {nx nx' : Nat} {r : SV} {ups : List (Nat × Option Chunk)} {rs : List Nat} (hr : HRel P ω w Im θ h) (hm : mrun h (unsafeStrX P pt p n nx) = some (r, ups, nx', rs)) {up un : Value} (hp : VRel P ω w Im θ p up) (hn : VRel P ω w Im θ n un)
  {tys : Array TypeId} {ty : TypeId} {args : Array Value} (h0 : tys[0]? = some pt) (ha : args = #[up, un]) :
  ∃ v w', (Builtin.unsafeString_ tys ty args).run P w = .ok v w' ∧ Ext (fun _ => False) h w Im θ (updF ups h) w' Im θ ∧ VRel P ω w' Im θ r v ∧ HRel P ω w' Im θ (updF ups h) ∧ nx' = nx := by
 unfold unsafeStrX at hm
 split at hm
 case h_2 => simp [mrun] at hm
 rename_i e y sz i off m hpt
 split at hm
 case h_2 => simp [mrun] at hm
 rename_i hu
 have hb0 := bif_fail hm; clear hm; obtain ⟨hk, hm⟩ := hb0
 simp only [Bool.and_eq_true] at hk
 have h1c : P.cellsOf e = 1 := Nat.eq_of_beq_eq_true hk.1.1.1
 have : sz = 1 := Nat.eq_of_beq_eq_true hk.1.1.2
 subst this
 have : i = 0 := Nat.eq_of_beq_eq_true hk.1.2
 subst this
 have : off = 0 := Nat.eq_of_beq_eq_true hk.2
 subst this
 have hb0 := get_run hm; clear hm; obtain ⟨c, rs', hy, hm, rfl⟩ := hb0
 cases c <;> try (simp [mrun] at hm; done)
 rename_i e' es
 have hb0 := bif_fail hm; clear hm; obtain ⟨hk2, hm⟩ := hb0
 have : e' = e := Nat.eq_of_beq_eq_true hk2
 subst this
 have hb0 := mrun_ite_fail' hm; clear hm; obtain ⟨hc, hm⟩ := hb0
 simp only [Bool.and_eq_true, decide_eq_true_eq] at hc
 obtain ⟨⟨rfl, hpos⟩, h63⟩ := hc
 obtain ⟨rfl, rfl, rfl, -⟩ := mrun_done hm
 cases hn
 cases hp with
 | qp hθ =>
  rename_i b N
  rcases hr.at_ y _ hy with ⟨rfl, h3⟩ | ⟨b', N', cs, T, fr, us, h3, h4, h5, ⟨h6, rfl⟩, h7, h8, h9⟩
  · simp at hpos
  · rw [h3] at hθ
    simp only [Option.some.injEq, Prod.mk.injEq] at hθ
    obtain ⟨rfl, rfl⟩ := hθ
    have hbs := seq_bytes hu h1c h8 h9
    have hld := load_seq (P := P) h4 hbs es.length 0 .empty (by omega)
    have hsh : w.shape? b' = some (T, cs.size) := by simp [World.shape?, h4]
    have hlies := Lib.liesAt_bytes (P := P) h1c (cs.size / P.cellsOf T) es.length (by rw [h1c, Nat.div_one]; rw [h1c, Nat.mul_one] at h7; omega)
    have hne : es.length ≠ 0 := by omega
    have h63' : ¬ (9223372036854775807 : Int) < (es.length : Int) := by omega
    have hmax : IntKind.i64.max = 9223372036854775807 := rfl
    have hrun : (Builtin.unsafeString_ tys ty args).run P w = .ok (.string ⟨((es.drop 0).map byteOf).toArray⟩) (w.freeze ⟨b', 0, none⟩ es.length) := by
     subst ha
     obtain ⟨s0, s1, s2, s3, hdef⟩ : ∃ (s0 : String) (s1 : RuntimeError) (s2 s3 : Unsupported), Builtin.unsafeString_ tys ty #[.pointer (some ⟨b', 0 * 1 + 0, none⟩), .int .i64 es.length] =
       (do
        let n ← asInt (.int .i64 es.length)
        let some pt := tys[0]? | stuck s0
        if n < 0 then runtimePanic s1
        if n > IntKind.i64.max then unsupported s2
        if n = 0 then pure (.string .empty)
        else if ← variablesAt ⟨b', 0, none⟩ (← elemOf pt) n.toNat then do
         let s ← loadBytes ⟨b', 0, none⟩ .empty n.toNat
         freeze ⟨b', 0, none⟩ n.toNat
         pure (.string s)
        else unsupported s3) := ⟨_, _, _, _, rfl⟩
     rw [hdef]
     simp [asInt, asIntOf, h0, hmax, h63', hne, variablesAt, hsh, hlies, elemOf, run_underlying hpt, hld]
     intro hh
     omega
    have hfz : w.freeze ⟨b', 0, none⟩ es.length = w.putObj b' (.cells cs T (if fr.1 == fr.2 then (0, 0 + es.length) else (min fr.1 0, max fr.2 (0 + es.length)))) := by
     obtain ⟨lo, hi⟩ := fr
     unfold World.freeze World.putObj
     rw [if_neg hne]
     congr 1
     apply Array.ext_getElem?
     intro j
     rw [Array.getElem?_modify, Array.getElem?_setIfInBounds]
     by_cases hj : b' = j
     · subst hj
       obtain ⟨hlt, hge⟩ := Array.getElem?_eq_some_iff.1 h4
       simp [hlt, hge]
     · simp [hj]
    obtain ⟨hE, hH⟩ := put_block hr hy h3 (.cells cs T (if fr.1 == fr.2 then (0, 0 + es.length) else (min fr.1 0, max fr.2 (0 + es.length)))) none (fun _ d hd => by cases hd)
    refine ⟨_, _, hrun, ?_, ?_, ?_, rfl⟩
    · rw [hfz]; exact hE
    · exact .str (by simp)
    · rw [hfz]; exact hH
theorem run_sliceDataX {x : SV} {nx nx' : Nat} {r : SV} {ups : List (Nat × Option Chunk)} {rs : List Nat} (hm : mrun h (sliceDataX x nx) = some (r, ups, nx', rs)) {u : Value} (hx : VRel P ω w Im θ x u) (tys : Array TypeId) (ty : TypeId) :
  ∃ v, (Builtin.unsafeSliceData_ tys ty #[u]).run P w = .ok v w ∧ VRel P ω w Im θ r v ∧ ups = [] ∧ nx' = nx := by
 unfold sliceDataX at hm
 split at hm
 case h_2 => simp [mrun] at hm
 rename_i y sz l n
 have hb0 := mrun_ite_fail' hm; clear hm; obtain ⟨hc, hm⟩ := hb0
 have hc := of_decide_eq_true hc
 obtain ⟨rfl, rfl, rfl, -⟩ := mrun_done hm
 cases hx with
 | qsnil h0 => omega
 | qs h1 h2 h3 => exact ⟨_, Lib.run_unsafeSliceData_row w tys ty _ _ _ (by omega), .qp h1, rfl, rfl⟩
theorem find_index {fn : Func} (hn : fn.name = "internal/bytealg.IndexByteString") (ho : fn.origin = "") : Extern.find fn = some Extern.BytealgIndexByte.indexByte ∧ Extern.findNext fn = none := by
 have a1 : Extern.allGenericRows.lookup "internal/bytealg.IndexByteString" = none := by kernel_rfl
 have a2 : Extern.allTypedRows.lookup "internal/bytealg.IndexByteString" = none := by kernel_rfl
 have a3 : Extern.allRows.lookup "internal/bytealg.IndexByteString" = some Extern.BytealgIndexByte.indexByte := by kernel_rfl
 have a4 : Extern.allNextRows.lookup "internal/bytealg.IndexByteString" = none := by kernel_rfl
 have a5 : Extern.allNextRows.lookup "" = none := by kernel_rfl
 exact ⟨by simp [Extern.find, hn, a1, a2, a3], by simp [Extern.findNext, hn, ho, a4, a5]⟩
theorem find_noEscape {fn : Func} (hn : fn.name = "internal/abi.NoEscape") (ho : fn.origin = "") : Extern.find fn = some Extern.AbiNoEscape.same ∧ Extern.findNext fn = none := by
 have a1 : Extern.allGenericRows.lookup "internal/abi.NoEscape" = none := by kernel_rfl
 have a2 : Extern.allTypedRows.lookup "internal/abi.NoEscape" = none := by kernel_rfl
 have a3 : Extern.allRows.lookup "internal/abi.NoEscape" = some Extern.AbiNoEscape.same := by kernel_rfl
 have a4 : Extern.allNextRows.lookup "internal/abi.NoEscape" = none := by kernel_rfl
 have a5 : Extern.allNextRows.lookup "" = none := by kernel_rfl
 exact ⟨by simp [Extern.find, hn, a1, a2, a3], by simp [Extern.findNext, hn, ho, a4, a5]⟩
end
end Go.Am
/- The abstract machine: copy onto a grown list; bytes that nobody knows. -/
namespace Go.Am
variable {P : Program} {ω : Nat → Value}
theorem flat_one {us : Nat → Value} {m : Nat} (h : ∀ i, i < m → (us i).cells.size = 1) {i : Nat} (hi : i < m) {c : Value} (hc : (us i).cells[0]? = some c) : (flat us m)[i]? = some c := by
 have hl := flat_len m h
 have hlt : i < (flat us m).length := by omega
 have h1 : (us i).cells[0]? = some (flat us m)[i] := flat_at (us := us) (sz := 1) (m := m) h (at_ := fun k => (us k).cells[0]?) (fun k hk d c hd => by
  have hdl : d < 1 := by
   rw [← h k hk]
   rcases Nat.lt_or_ge d (us k).cells.size with h1 | h1
   · exact h1
   · simp [Array.getElem?_eq_none h1] at hd
  have : d = 0 := by omega
  subst this
  simpa using hd) i (flat us m)[i] (by simp [hlt])
 rw [hc] at h1
 rw [h1]
 simp [hlt]
section
variable {w : World} {Im : Nat → Prop} {θ : Th} {h : HpF}
theorem frozen_nil {b : Nat} (hb : frozenBy Im θ h [] b) : Im b := by
 rcases hb with hb | ⟨y, hy, _⟩
 · exact hb
 · cases hy
theorem overB_len (xs : List SV) : ∀ (j : Nat) (cs : List SV), (overB xs j cs).length = cs.length
 | _, [] => rfl
 | j, c :: cs => by simp [overB, overB_len xs (j + 1) cs]
theorem overB_at (xs : List SV) : ∀ (j : Nat) (cs : List SV) (i : Nat), (overB xs j cs)[i]? = (cs[i]?).map fun c => .int .u8 (bif Nat.blt (j + i) xs.length then asI (xs.getD (j + i) .junk) else asI c)
 | _, [], i => by simp [overB]
 | j, c :: cs, 0 => by simp [overB]
 | j, c :: cs, i + 1 => by
  simp only [overB, List.getElem?_cons_succ]
  rw [overB_at xs (j + 1) cs i, show j + 1 + i = j + (i + 1) by omega]
theorem byteT_spec {e : TypeId} (h : byteT P e = true) : P.underlying e = some (.int .u8) ∧ P.cellsOf e = 1 := by
 unfold byteT at h
 split at h
 · rename_i h1; exact ⟨h1, Nat.eq_of_beq_eq_true h⟩
 · cases h
theorem byte_self {e : TypeId} (hu : P.underlying e = some (.int .u8)) {v : SV} (h : expand P e v = v) : v = .int .u8 (asI v) := by
 have ha : isAggT P e = false := by unfold isAggT; rw [hu]
 simp only [expand, ha, cond_false, expandLeaf, hu] at h
 exact h.symm
theorem run_copySlX {t t' e : TypeId} {y off m : Nat} {s : SV} {nx nx' : Nat} {r : SV} {ups : List (Nat × Option Chunk)} {rs : List Nat} (hr : HRel P ω w Im θ h) (hu : P.underlying t = some (.slice e)) (hm : mrun h (copySlX P e t' y off m s nx) = some (r, ups, nx', rs)) {ud us : Value} (hd : VRel P ω w Im θ (.sl y 1 off m) ud) (hs : VRel P ω w Im θ s us)
  {tys : Array TypeId} {ty : TypeId} {args : Array Value} (h0 : tys[0]? = some t) (ha : args = #[ud, us]) :
  ∃ v w', (Builtin.copy_ tys ty args).run P w = .ok v w' ∧ Ext (fun _ => False) h w Im θ (updF ups h) w' Im θ ∧ VRel P ω w' Im θ r v ∧ HRel P ω w' Im θ (updF ups h) ∧ nx' = nx := by
 unfold copySlX at hm
 have hb0 := bif_fail hm; clear hm; obtain ⟨hk, hm⟩ := hb0
 simp only [Bool.and_eq_true] at hk
 obtain ⟨hue, h1c⟩ := byteT_spec hk.2
 have hpl := hk.1.2
 obtain ⟨xs, ys, rs1, uf, hm1, hel, hsrc⟩ := elemsM_run hr hpl hs hm
 clear hm
 split at hm1
 case h_2 => simp [mrun] at hm1
 have hb0 := get_run hm1; clear hm1; obtain ⟨c, rs', hy, hm, rfl⟩ := hb0
 cases c <;> try (simp [mrun] at hm; done)
 rename_i T cs
 simp only [] at hm
 split at hm
 case h_2 => simp [mrun] at hm
 rename_i part hpart
 split at hm
 case h_2 => simp [mrun] at hm
 rename_i cs' hcs'
 have hb0 := bif_fail hm; clear hm; obtain ⟨hby, hm⟩ := hb0
 have hb0 := mrun_ite_fail' hm; clear hm; obtain ⟨hc, hm⟩ := hb0
 have hxm : xs.length ≤ m := of_decide_eq_true hc
 obtain ⟨rfl, rfl, rfl, -⟩ := mrun_done hm
 obtain ⟨t1, t2⟩ := takeN_spec _ _ _ _ hpart
 obtain ⟨-, s2⟩ := splice_spec _ _ _ _ hcs'
 have hplen : part.length = m := by rw [t2, List.length_take, List.length_drop]; omega
 have holen : (overB xs 0 part).length = m := by rw [overB_len, hplen]
 have hne : P.cellsOf e ≠ 0 := by rw [h1c]; decide
 obtain ⟨i, hi⟩ := info_of_cells hne
 have hisz : i.size = 1 := by simpa [Program.cellsOf, hi] using h1c
 have hsz1 : ∀ j, j < xs.length → (uf j).cells.size = 1 := by intro j hj; rw [← h1c]; exact hel.size j hj
 have hfl := flat_len xs.length hsz1
 rw [Nat.mul_one] at hfl
 have hlen := hsrc.len w
 have hcells := hsrc.cells w rfl
 rw [h1c] at hcells
 have hmin : Nat.min xs.length m = xs.length := Nat.min_eq_left hxm
 have hcl : cs'.length = cs.length := by
  rw [s2, List.length_append, List.length_append, holen, List.length_take, List.length_drop]; omega
 -- what stands where
 have hnew : ∀ j, cs'[j]? = if off ≤ j ∧ j < off + m then (overB xs 0 part)[j - off]? else cs[j]? := by
  intro j
  rw [s2, seg_get _ _ _ (by rw [holen]; exact t1), holen]
 have hpat : ∀ k, k < m → part[k]? = cs[off + k]? := by
  intro k hk
  rw [t2, List.getElem?_take, if_pos hk, List.getElem?_drop]
 have hold : ∀ k, k < m → cs[off + k]? = some (.int .u8 (asI (part.getD k .junk))) := by
  intro k hk
  have h1 : part[k]? = some part[k] := List.getElem?_eq_getElem (by omega)
  obtain ⟨n, hn⟩ := byteL_at hby part[k] (List.getElem_mem _)
  rw [← hpat k hk, List.getD_eq_getElem?_getD, h1, hn]; rfl
 have hval : ∀ k, k < m → (overB xs 0 part)[k]? = some (.int .u8 (bif Nat.blt k xs.length then asI (xs.getD k .junk) else asI (part.getD k .junk))) := by
  intro k hk
  rw [overB_at, List.getElem?_eq_getElem (show k < part.length by omega)]
  simp only [Option.map_some, Nat.zero_add, List.getD_eq_getElem?_getD, List.getElem?_eq_getElem (show k < part.length by omega), Option.getD_some]
 cases hd with
 | slnil =>
  have hx0 : xs = [] := List.eq_nil_of_length_eq_zero (by omega)
  subst hx0
  have hp0 : part = [] := List.eq_nil_of_length_eq_zero hplen
  subst hp0
  have hcc : cs' = cs := by rw [s2]; simp [overB]
  subst hcc
  have hrun : (Builtin.copy_ tys ty args).run P w = .ok (goInt 0) w := by
   subst ha
   simp only [List.length_nil, flat] at hcells hlen
   simp [Builtin.copy_, h0, run_underlying hu, hlen, sizeOf, typeInfo, hi, hisz, hcells, storeCells]
  have : updF [(y, some (Chunk.cells T cs'))] h = h := by funext x; simp only [updF]; by_cases hx : x = y <;> simp [hx, hy]
  refine ⟨_, w, hrun, ?_, .int, ?_, rfl⟩
  · rw [this]; exact Ext.refl _
  · rw [this]; exact hr
 | sl hθ g1 g2 =>
  rename_i b N cap
  rw [Nat.mul_one] at g1
  obtain ⟨b', ucs, fr, h3, h4, h5, hl⟩ := hr.at_ y _ hy
  rw [h3] at hθ
  simp only [Option.some.injEq, Prod.mk.injEq] at hθ
  obtain ⟨rfl, rfl⟩ := hθ
  have hul : ucs.toList.length = cs.length := hl.len.symm
  have hbyte : ∀ (k : Nat) (v : SV), xs[k]? = some v → v = .int .u8 (asI v) ∧ ∃ q, (uf k).cells[0]? = some q ∧ q = .int .u8 (asI v) := by
   intro k v hv
   have h6 := byte_self hue (hel.fit v (List.mem_of_getElem? hv))
   obtain ⟨h7, h8⟩ := hel.rel k v hv
   refine ⟨h6, ?_⟩
   rw [h6] at h7
   generalize uf k = q at h7
   cases h7
   exact ⟨_, rfl, rfl⟩
  have hones : ∀ u ∈ flat uf xs.length, u.oneCell' = true := by
   intro u hu
   obtain ⟨k, hk, huk⟩ := flat_mem _ u hu
   have hrel := (hel.rel k xs[k] (by simp [hk])).1
   exact (plain_cells hpl (hel.fit _ (List.getElem_mem hk)) hrel).1 u huk
  have hroom : off + (flat uf xs.length).length ≤ ucs.toList.length := by rw [hfl, hul]; omega
  have hst := run_storeCells_fine P b' off T fr (flat uf xs.length) 0 ucs w h4 h5 (by simpa using hroom) hones
  simp only [Nat.add_zero] at hst
  generalize hcells' : (ucs.toList.take off ++ flat uf xs.length ++ ucs.toList.drop (off + (flat uf xs.length).length)).toArray = cells at hst
  have hcsz : cells.size = ucs.size := by
   rw [← hcells']
   simp only [List.size_toArray, List.length_append, List.length_take, List.length_drop, Array.length_toList] at hroom ⊢
   omega
  rw [setRow_put h4] at hst
  have hrun : (Builtin.copy_ tys ty args).run P w = .ok (goInt xs.length) (w.putObj b' (.cells cells T fr)) := by
   subst ha
   simp [Builtin.copy_, h0, run_underlying hu, hlen, sizeOf, typeInfo, hi, hisz, hmin, hcells, hst]
  have hget : ∀ j, cells.toList[j]? = if off ≤ j ∧ j < off + xs.length then (flat uf xs.length)[j - off]? else ucs.toList[j]? := by
   intro j
   rw [← hcells']
   simp only []
   rw [seg_get _ _ _ hroom, hfl]
  obtain ⟨hE, hH⟩ := put_block hr hy h3 (.cells cells T fr) (some (.cells T cs')) (fun hI d hd => by
   cases hd
   refine ⟨b', cells, fr, by rw [hcl]; exact h3, World.putObj_heap_same (heap_lt h4), by rw [hcsz]; exact h5, ?_, fun j v u hv hu => ?_⟩
   · rw [hcl]; simp only [Array.length_toList] at hul ⊢; omega
   · rw [hnew] at hv
     rw [hget] at hu
     by_cases hj : off ≤ j ∧ j < off + m
     · rw [if_pos hj] at hv
       have hk : j - off < m := by omega
       rw [hval _ hk] at hv
       cases hv
       by_cases hx : j - off < xs.length
       · rw [if_pos ⟨hj.1, by omega⟩] at hu
         obtain ⟨h6, q, hq, rfl⟩ := hbyte (j - off) xs[j - off] (List.getElem?_eq_getElem hx)
         have := flat_one hsz1 hx hq
         rw [this] at hu
         cases hu
         have hb : Nat.blt (j - off) xs.length = true := by rw [Nat.blt_eq]; exact hx
         rw [hb, cond_true, List.getD_eq_getElem?_getD, List.getElem?_eq_getElem hx]
         exact .int
       · rw [if_neg (by omega)] at hu
         have h7 := hold _ hk
         rw [show off + (j - off) = j by omega] at h7
         have h8 := hl.at_ j _ u h7 hu
         have hb : Nat.blt (j - off) xs.length = false := by
          cases hh : Nat.blt (j - off) xs.length with
          | false => rfl
          | true => rw [Nat.blt_eq] at hh; exact absurd hh hx
         rw [hb, cond_false]
         cases h8
         exact .int
     · rw [if_neg hj] at hv
       rw [if_neg (by omega)] at hu
       exact (hl.at_ j v u hv hu).mono hI (fun _ _ h => h))
  exact ⟨_, _, hrun, hE, .int, hH, rfl⟩
theorem run_copyX {t t' : TypeId} {d s : SV} {nx nx' : Nat} {r : SV} {ups : List (Nat × Option Chunk)} {rs : List Nat} (hr : HRel P ω w Im θ h) (hm : mrun h (copyX P t t' d s nx) = some (r, ups, nx', rs)) {ud us : Value} (hd : VRel P ω w Im θ d ud) (hs : VRel P ω w Im θ s us)
  {tys : Array TypeId} {ty : TypeId} {args : Array Value} (h0 : tys[0]? = some t) (ha : args = #[ud, us]) :
  ∃ v w', (Builtin.copy_ tys ty args).run P w = .ok v w' ∧ Ext (fun _ => False) h w Im θ (updF ups h) w' Im θ ∧ VRel P ω w' Im θ r v ∧ HRel P ω w' Im θ (updF ups h) ∧ nx' = nx := by
 unfold copyX at hm
 split at hm
 case h_3 => simp [mrun] at hm
 case h_2 =>
  rename_i e y sz off m hu
  have hb0 := bif_fail hm; clear hm; obtain ⟨hk, hm⟩ := hb0
  have : sz = 1 := Nat.eq_of_beq_eq_true hk
  subst this
  exact run_copySlX hr hu hm hd hs h0 ha
 rename_i e y sz l m hu
 have hb0 := bif_fail hm; clear hm; obtain ⟨hk, hm⟩ := hb0
 simp only [Bool.and_eq_true] at hk
 have h1c : P.cellsOf e = 1 := Nat.eq_of_beq_eq_true hk.1.2
 have : sz = 1 := Nat.eq_of_beq_eq_true hk.2
 subst this
 have hpl := hk.1.1.2
 obtain ⟨xs, ys, rs1, uf, hm1, hel, hsrc⟩ := elemsM_run hr hpl hs hm
 clear hm
 split at hm1
 case h_2 => simp [mrun] at hm1
 have hb0 := get_run hm1; clear hm1; obtain ⟨c, rs', hy, hm, rfl⟩ := hb0
 cases c <;> try (simp [mrun] at hm; done)
 rename_i e' es
 have hb0 := bif_fail hm; clear hm; obtain ⟨hk2, hm⟩ := hb0
 have : e' = e := Nat.eq_of_beq_eq_true hk2
 subst this
 have hb0 := mrun_ite_fail' hm; clear hm; obtain ⟨hc, hm⟩ := hb0
 simp only [Bool.and_eq_true, decide_eq_true_eq] at hc
 obtain ⟨hxm, hle⟩ := hc
 obtain ⟨rfl, rfl, rfl, -⟩ := mrun_done hm
 have hne : P.cellsOf e' ≠ 0 := by rw [h1c]; decide
 obtain ⟨i, hi⟩ := info_of_cells hne
 have hisz : i.size = 1 := by simpa [Program.cellsOf, hi] using h1c
 have hsz1 : ∀ j, j < xs.length → (uf j).cells.size = 1 := by intro j hj; rw [← h1c]; exact hel.size j hj
 have hfl := flat_len xs.length hsz1
 rw [Nat.mul_one] at hfl
 have hlen := hsrc.len w
 have hcells := hsrc.cells w rfl
 rw [h1c] at hcells
 have hmin : Nat.min xs.length m = xs.length := Nat.min_eq_left hxm
 cases hd with
 | qsnil hm0 =>
  rename_i p
  subst hm0
  have hx0 : xs = [] := List.eq_nil_of_length_eq_zero (by omega)
  subst hx0
  have hrun : (Builtin.copy_ tys ty args).run P w = .ok (goInt 0) w := by
   subst ha
   simp only [List.length_nil, flat] at hcells hlen
   cases p <;> simp [Builtin.copy_, h0, run_underlying hu, hlen, sizeOf, typeInfo, hi, hisz, hcells, storeCells]
  have he : (es.take l ++ [] ++ es.drop (l + 0)) = es := by simp
  refine ⟨_, w, hrun, ?_, .int, ?_, rfl⟩
  · simp only [List.length_nil, he]
    have : updF [(y, some (Chunk.seq e' es))] h = h := by funext x; simp only [updF]; by_cases hx : x = y <;> simp [hx, hy]
    rw [this]
    exact Ext.refl _
  · simp only [List.length_nil, he]
    have : updF [(y, some (Chunk.seq e' es))] h = h := by funext x; simp only [updF]; by_cases hx : x = y <;> simp [hx, hy]
    rw [this]
    exact hr
 | qs hθ g1 g2 =>
  rename_i b N cap
  rw [Nat.mul_one] at g1
  rcases hr.at_ y _ hy with ⟨_, h3⟩ | ⟨b', N', cs, T, fr, uo, h3, h4, h5, ⟨h6, rfl⟩, h7, h8, h9⟩
  · rw [h3] at hθ; cases hθ
  · rw [h3] at hθ
    simp only [Option.some.injEq, Prod.mk.injEq] at hθ
    obtain ⟨rfl, rfl⟩ := hθ
    have hones : ∀ u ∈ flat uf xs.length, u.oneCell' = true := by
     intro u hu
     obtain ⟨k, hk, huk⟩ := flat_mem _ u hu
     have hrel := (hel.rel k xs[k] (by simp [hk])).1
     exact (plain_cells hpl (hel.fit _ (List.getElem_mem hk)) hrel).1 u huk
    have hroom : l + (flat uf xs.length).length ≤ cs.toList.length := by rw [hfl]; simp only [Array.length_toList]; omega
    have hst := run_storeCells_fine P b' l T fr (flat uf xs.length) 0 cs w h4 h5 (by simpa using hroom) hones
    simp only [Nat.add_zero] at hst
    generalize hcells' : (cs.toList.take l ++ flat uf xs.length ++ cs.toList.drop (l + (flat uf xs.length).length)).toArray = cells at hst
    have hcsz : cells.size = cs.size := by
     rw [← hcells']
     simp only [List.size_toArray, List.length_append, List.length_take, List.length_drop, Array.length_toList] at hroom ⊢
     omega
    rw [setRow_put h4] at hst
    have hrun : (Builtin.copy_ tys ty args).run P w = .ok (goInt xs.length) (w.putObj b' (.cells cells T fr)) := by
     subst ha
     simp [Builtin.copy_, h0, run_underlying hu, hlen, sizeOf, typeInfo, hi, hisz, hmin, hcells, hst]
    have hget : ∀ j, cells[j]? = if l ≤ j ∧ j < l + xs.length then (flat uf xs.length)[j - l]? else cs[j]? := by
     intro j
     rw [← hcells']
     simp only [List.getElem?_toArray]
     rw [seg_get _ _ _ hroom, hfl]
     simp
    have hone : ∀ {z : Value} {d : Nat} {c : Value}, z.cells.size = P.cellsOf T → z.cells[d]? = some c → d = 0 := by
     intro z d c hz hd
     rcases Nat.lt_or_ge d z.cells.size with h1 | h1
     · omega
     · simp [Array.getElem?_eq_none h1] at hd
    obtain ⟨hE, hH⟩ := put_block hr hy h3 (.cells cells T fr) (some (.seq T (es.take l ++ xs ++ es.drop (l + xs.length)))) (fun hI d hd => by
     cases hd
     refine .inr ⟨b', N', cells, T, fr, fun j => if l ≤ j ∧ j < l + xs.length then uf (j - l) else uo j, h3, World.putObj_heap_same (heap_lt h4), by rw [hcsz]; exact h5, ⟨by rw [hcsz, h6], rfl⟩, ?_, fun v hv => ?_, fun j v hv => ?_⟩
     · rw [h1c] at h7 ⊢
       simp only [List.length_append, List.length_take, List.length_drop]
       omega
     · rcases List.mem_append.1 hv with hv | hv
       · rcases List.mem_append.1 hv with hv | hv
         · exact h8 v (List.mem_of_mem_take hv)
         · exact hel.fit v hv
       · exact h8 v (List.mem_of_mem_drop hv)
     · have htl : (es.take l).length = l := by simp; omega
       by_cases hj : l ≤ j ∧ j < l + xs.length
       · have hv' : xs[j - l]? = some v := by
           rw [List.append_assoc, List.getElem?_append_right (by omega), htl, List.getElem?_append_left (by omega)] at hv
           exact hv
         obtain ⟨q1, q2⟩ := hel.rel (j - l) v hv'
         simp only [if_pos hj]
         refine ⟨q1.mono (fun b hb => hI b (frozen_nil hb)) (fun _ _ h => h), q2, fun d c hd => ?_⟩
         have := hone q2 hd
         subst this
         rw [h1c, Nat.mul_one, Nat.add_zero, hget, if_pos hj]
         exact flat_one hsz1 (by omega) hd
       · have hv' : es[j]? = some v := by
           rcases Nat.lt_or_ge j l with h1 | h1
           · rw [List.append_assoc, List.getElem?_append_left (by omega), List.getElem?_take, if_pos h1] at hv
             exact hv
           · rw [List.getElem?_append_right (by rw [List.length_append, htl]; omega), List.length_append, htl, List.getElem?_drop] at hv
             rw [← hv]
             congr 1
             omega
         obtain ⟨q1, q2, q3⟩ := h9 j v hv'
         simp only [if_neg hj]
         refine ⟨q1.mono hI (fun _ _ h => h), q2, fun d c hd => ?_⟩
         have hq := q3 d c hd
         have := hone q2 hd
         subst this
         rw [h1c, Nat.mul_one, Nat.add_zero] at hq ⊢
         rw [hget, if_neg hj]
         exact hq)
    exact ⟨_, _, hrun, hE, .int, hH, rfl⟩
theorem run_rawX {ts : List TypeId} {args : List SV} {nx nx' : Nat} {r : SV} {ups : List (Nat × Option Chunk)} {rs : List Nat} (hr : HRel P ω w Im θ h) (hfr : ∀ x, nx ≤ x → x < nx' → θ x = none ∧ h x = none) (hm : mrun h (rawX P ts args nx) = some (r, ups, nx', rs)) {us : Array Value} (hl : LRel P ω w Im θ args us.toList) (ps : Array TypeId) :
  ∃ v w' θ' Im', (Extern.BytealgMakeNoZero.makeNoZero ps ts.toArray us).run P w = .ok v w' ∧ Ext (fun x => nx ≤ x ∧ x < nx') h w Im θ (updF ups h) w' Im' θ' ∧ VRel P ω w' Im' θ' r v ∧ HRel P ω w' Im' θ' (updF ups h) := by
 unfold rawX at hm
 split at hm
 case h_2 => simp [mrun] at hm
 rename_i t n
 split at hm
 case h_2 => simp [mrun] at hm
 rename_i e hu
 have hb0 := bif_fail hm; clear hm; obtain ⟨hk, hm⟩ := hb0
 have h1c : P.cellsOf e = 1 := Nat.eq_of_beq_eq_true hk
 have hb0 := mrun_ite_fail' hm; clear hm; obtain ⟨hc, hm⟩ := hb0
 simp only [Bool.and_eq_true, decide_eq_true_eq] at hc
 obtain ⟨c1, c2⟩ := hc
 obtain ⟨rfl, rfl, rfl, -⟩ := mrun_done hm
 obtain ⟨k, rfl⟩ : ∃ k : Nat, n = k := ⟨n.toNat, by omega⟩
 have hlen := hl.len
 match hus : us.toList, hlen with
 | [a], _ =>
  rw [hus] at hl
  have eus : us = #[a] := Array.ext' hus
  subst eus
  have ha := hl.at_ 0 _ a rfl rfl
  cases ha
  obtain ⟨cs, q1, q2, -⟩ := Lib.run_makeNoZero (P := P) w ps t _ hu k (by omega)
  obtain ⟨f1, f2⟩ := hfr nx (Nat.le_refl _) (Nat.lt_succ_self _)
  obtain ⟨θ', Im', g1, g2, g3⟩ := new_step hr f1 f2 (w' := w.drew.drew.alloc (.cells cs e)) (N := cs.size) (by simp) (fun d hd => alloc_old w.drew.drew _ d hd) rfl rfl rfl (.seq e []) (fun θ' a => by
   refine .inr ⟨_, _, cs, e, (0, 0), fun _ => undef, a, alloc_new w.drew.drew _, fun i _ hh => by omega, ⟨rfl, rfl⟩, by simp, (fun v hv => by cases hv), (fun i v hv => by simp at hv)⟩)
  refine ⟨_, _, θ', Im', q1, g1, ?_, g2⟩
  have := VRel'.qs (P := P) (ω := ω) (w := w.drew.drew.alloc (.cells cs e)) (Im := Im') (θ := θ') (x := nx) (sz := 1) (l := 0) (n := k) (cap := cs.size) g3 (by simp) q2
  simpa using this
theorem find_raw {fn : Func} (hn : fn.name = "internal/bytealg.MakeNoZero") (ho : fn.origin = "") : Extern.find fn = some (Extern.BytealgMakeNoZero.makeNoZero fn.params fn.resultTypes) ∧ Extern.findNext fn = none := by
 have a1 : Extern.allGenericRows.lookup "internal/bytealg.MakeNoZero" = none := by kernel_rfl
 have a2 : Extern.allTypedRows.lookup "internal/bytealg.MakeNoZero" = some Extern.BytealgMakeNoZero.makeNoZero := by kernel_rfl
 have a4 : Extern.allNextRows.lookup "internal/bytealg.MakeNoZero" = none := by kernel_rfl
 have a5 : Extern.allNextRows.lookup "" = none := by kernel_rfl
 exact ⟨by simp [Extern.find, hn, a1, a2], by simp [Extern.findNext, hn, ho, a4, a5]⟩
theorem run_externX {g : Nat} {args : List SV} {nx nx' : Nat} {r : SV} {ups : List (Nat × Option Chunk)} {rs : List Nat} (hr : HRel P ω w Im θ h) (hfr : ∀ x, nx ≤ x → x < nx' → θ x = none ∧ h x = none) (hm : mrun h (externX P g args nx) = some (r, ups, nx', rs)) {us : Array Value} (hl : LRel P ω w Im θ args us.toList) :
  ∃ v w' θ' Im', (callFunc g us).run P w = .ok (.value v) w' ∧ Ext (fun x => nx ≤ x ∧ x < nx') h w Im θ (updF ups h) w' Im' θ' ∧ VRel P ω w' Im' θ' r v ∧ HRel P ω w' Im' θ' (updF ups h) := by
 unfold externX at hm
 split at hm
 case h_2 => simp [mrun] at hm
 rename_i fn hfn
 have hb0 := bif_fail hm; clear hm; obtain ⟨hk, hm⟩ := hb0
 simp only [Bool.and_eq_true] at hk
 have ho : fn.origin = "" := by simpa using hk.2
 cases h1 : fn.name == "internal/bytealg.IndexByteString" with
 | true =>
  rw [h1] at hm
  simp only [cond_true] at hm
  have hname : fn.name = "internal/bytealg.IndexByteString" := by simpa using h1
  obtain ⟨q1, q2⟩ := find_index hname ho
  split at hm
  case h_2 => simp [mrun] at hm
  rename_i l c
  obtain ⟨rfl, rfl, rfl, -⟩ := mrun_done hm
  have hlen := hl.len
  match hus : us.toList, hlen with
  | [a, b], _ =>
   rw [hus] at hl
   have e : us = #[a, b] := Array.ext' hus
   have ha := hl.at_ 0 _ a rfl rfl
   have hb := hl.at_ 1 _ b rfl rfl
   cases ha with
   | str hs =>
    cases hb
    subst e
    refine ⟨_, w, θ, Im, ?_, Ext.refl _, .int, hr⟩
    rw [← hs]
    rw [run_callFunc_standIn hfn (by rw [hname]; rfl) hk.1 q2 q1, Lib.run_indexByteString]
    rfl
 | false =>
  rw [h1] at hm
  simp only [cond_false] at hm
  cases h2 : fn.name == "internal/abi.NoEscape" with
  | false =>
   rw [h2] at hm
   simp only [cond_false] at hm
   have hb0 := bif_fail hm; clear hm; obtain ⟨h3, hm⟩ := hb0
   have hname : fn.name = "internal/bytealg.MakeNoZero" := by simpa using h3
   obtain ⟨q1, q2⟩ := find_raw hname ho
   obtain ⟨v, w', θ', Im', g1, g2, g3, g4⟩ := run_rawX hr hfr hm hl fn.params
   refine ⟨v, w', θ', Im', ?_, g2, g3, g4⟩
   have e : fn.resultTypes.toList.toArray = fn.resultTypes := by simp
   rw [e] at g1
   rw [run_callFunc_standIn hfn (by rw [hname]; rfl) hk.1 q2 q1, g1]
   rfl
  | true =>
  rw [h2] at hm
  simp only [cond_true] at hm
  have hname : fn.name = "internal/abi.NoEscape" := by simpa using h2
  obtain ⟨q1, q2⟩ := find_noEscape hname ho
  split at hm
  case h_2 => simp [mrun] at hm
  rename_i x
  obtain ⟨rfl, rfl, rfl, -⟩ := mrun_done hm
  have hlen := hl.len
  match hus : us.toList, hlen with
  | [a], _ =>
   rw [hus] at hl
   have e : us = #[a] := Array.ext' hus
   subst e
   exact ⟨a, w, θ, Im, by rw [run_callFunc_standIn hfn (by rw [hname]; rfl) hk.1 q2 q1, Lib.run_noEscape]; rfl, Ext.refl _, hl.at_ 0 _ a rfl rfl, hr⟩
end
end Go.Am
/- The abstract machine: 'append', and all further operations. -/
namespace Go.Am
variable {P : Program} {ω : Nat → Value}
section
variable {w : World} {Im : Nat → Prop} {θ : Th} {h : HpF}
theorem growS_inv {e : TypeId} {es news : List SV} {dead ys : List Nat} {nx nx' : Nat} {r : SV} {ups : List (Nat × Option Chunk)} {rs : List Nat} (hm : mrun h (growS P e es news dead ys nx) = some (r, ups, nx', rs)) :
  ∃ i z, P.info? e = some i ∧ i.zero = some z ∧ z.cells.size = P.cellsOf e ∧ apartN dead ys = true ∧ es.length + news.length ≤ 9223372036854775807 ∧ (es.length + news.length) * i.bytes ≤ 140737488355328 ∧
   r = .qs nx (P.cellsOf e) 0 (es.length + news.length) ∧ ups = drops (dead ++ ys) ++ [(nx, some (.seq e (es ++ news)))] ∧ nx' = nx + 1 := by
 unfold growS at hm
 split at hm
 case h_2 => simp [mrun] at hm
 rename_i i hi
 split at hm
 case h_2 => simp [mrun] at hm
 rename_i z hz
 have hb0 := bif_fail hm; clear hm; obtain ⟨hk, hm⟩ := hb0
 simp only [Bool.and_eq_true] at hk
 have hb0 := mrun_ite_fail' hm; clear hm; obtain ⟨hc, hm⟩ := hb0
 simp only [Bool.and_eq_true, decide_eq_true_eq] at hc
 obtain ⟨rfl, rfl, rfl, rfl⟩ := mrun_done hm
 exact ⟨i, z, hi, hz, Nat.eq_of_beq_eq_true hk.1.1, hk.2, hc.1, hc.2, rfl, rfl, rfl⟩
theorem run_appendX {t t' : TypeId} {s x : SV} {nx nx' : Nat} {r : SV} {ups : List (Nat × Option Chunk)} {rs : List Nat} (hr : HRel P ω w Im θ h) (hfr : ∀ x, nx ≤ x → x < nx' → θ x = none ∧ h x = none) (hm : mrun h (appendX P t t' s x nx) = some (r, ups, nx', rs))
  {tys : Array TypeId} {ty : TypeId} {args : Array Value} {us ux : Value} (h0 : tys[0]? = some t) (h1 : tys[1]? = some t') (a0 : args[0]? = some us) (a1 : args[1]? = some ux) (hs : VRel P ω w Im θ s us) (hx : VRel P ω w Im θ x ux) :
  ∃ v w' θ' Im', (Builtin.append_ tys ty args).run P w = .ok v w' ∧ Ext (fun x => nx ≤ x ∧ x < nx') h w Im θ (updF ups h) w' Im' θ' ∧ VRel P ω w' Im' θ' r v ∧ HRel P ω w' Im' θ' (updF ups h) := by
 unfold appendX at hm
 split at hm
 case h_2 => simp [mrun] at hm
 rename_i e hu
 have hb0 := bif_fail hm; clear hm; obtain ⟨hk, hm⟩ := hb0
 simp only [Bool.and_eq_true] at hk
 have fin : ∀ (es : List SV) (uf : Nat → Value) (dead zs : List Nat) (rs : List Nat), Elems P w (frozenBy Im θ h zs) e es uf → Dst P w θ h e dead es.length uf us →
   mrun h (elemsM P e (fun news ys => growS P e es news dead (zs ++ ys) nx) x) = some (r, ups, nx', rs) →
   ∃ v w' θ' Im', (Builtin.append_ tys ty args).run P w = .ok v w' ∧ Ext (fun x => nx ≤ x ∧ x < nx') h w Im θ (updF ups h) w' Im' θ' ∧ VRel P ω w' Im' θ' r v ∧ HRel P ω w' Im' θ' (updF ups h) := by
  intro es uf dead zs rs hes hd hm
  obtain ⟨news, ys, rs', uf2, g1, g2, g3⟩ := elemsM_run hr hk.2 hx hm
  obtain ⟨i, z, hi, hz, hzs, hap, h63, hby, rfl, rfl, rfl⟩ := growS_inv g1
  obtain ⟨f1, f2⟩ := hfr nx (Nat.le_refl _) (Nat.lt_succ_self _)
  obtain ⟨v', w', θ', q1, q2, q3, q4⟩ := grow_run (ty := ty) hr f1 f2 hap (hes.mono (frozen_app w).1) (g2.mono (frozen_app w).2) hk.2 h0 h1 hu hk.1 hi hz hzs a0 a1 hd g3 h63 hby
  exact ⟨v', w', θ', _, q1, q2, q4, q3⟩
 split at hm
 · cases hs
   exact fin [] (fun _ => undef) [] [] rs Elems.nil (.none rfl) (by simpa using hm)
 · cases hs
   exact fin [] (fun _ => undef) [] [] rs Elems.nil (.none rfl) (by simpa using hm)
 · rename_i y sz l n
   have hb0 := get_run hm; clear hm; obtain ⟨c, rs', hy, hm, rfl⟩ := hb0
   cases c with
   | seq e' es =>
    have hb0 := bif_fail hm; clear hm; obtain ⟨hk2, hm⟩ := hb0
    simp only [Bool.and_eq_true] at hk2
    have : e = e' := Nat.eq_of_beq_eq_true hk2.1.1
    subst this
    have : sz = P.cellsOf e := Nat.eq_of_beq_eq_true hk2.1.2
    subst this
    have : l = 0 := Nat.eq_of_beq_eq_true hk2.2
    subst this
    have hb0 := mrun_ite_fail' hm; clear hm; obtain ⟨hc, hm⟩ := hb0
    have hn : n = es.length := of_decide_eq_true hc
    rcases hr.at_ y _ hy with ⟨rfl, h3⟩ | ⟨b, N, cs, T, fr, uf, h3, h4, h5, h6, h7, h8, h9⟩
    · cases hs with
      | qs hθ _ _ => rw [h3] at hθ; cases hθ
      | qsnil _ => exact fin [] (fun _ => undef) [y] [] rs' Elems.nil (.none rfl) (by simpa using hm)
    · obtain ⟨h6, rfl⟩ := h6
      have hel : Elems P w (frozenBy Im θ h []) _ es uf := ⟨h8, fun i v hv => ⟨(h9 i v hv).1.mono (frozenBy_up w) (fun _ _ h => h), (h9 i v hv).2.1⟩⟩
      cases hs with
      | qsnil hn0 => exact fin es uf [y] [] rs' hel (.none (by omega)) (by simpa using hm)
      | qs hθ k1 k2 =>
       rw [h3] at hθ
       simp only [Option.some.injEq, Prod.mk.injEq] at hθ
       obtain ⟨rfl, rfl⟩ := hθ
       rename_i cap
       refine fin es uf [y] [] rs' hel ?_ (by simpa using hm)
       rw [Nat.zero_mul, hn]
       refine Dst.row (y := y) (by simp) hy h3 h4 h5 (by omega) (by rw [h6]; simpa using k1) (fun i hi d c hd => ?_)
       exact (h9 i es[i] (by simp [hi])).2.2 d c hd
   | cells => simp [mrun] at hm
   | loopr => simp [mrun] at hm
   | mpc => simp [mrun] at hm
   | mpb => simp [mrun] at hm
 · rename_i y sz off n
   have hb0 := get_run hm; clear hm; obtain ⟨c, rs', hy, hm, rfl⟩ := hb0
   cases c with
   | cells T cs =>
    have hb0 := bif_fail hm; clear hm; obtain ⟨hk2, hm⟩ := hb0
    simp only [Bool.and_eq_true] at hk2
    have : sz = P.cellsOf e := Nat.eq_of_beq_eq_true hk2.1.1.1
    subst this
    have : off = 0 := Nat.eq_of_beq_eq_true hk2.1.2
    subst this
    have : T = e := Nat.eq_of_beq_eq_true hk2.1.1.2
    subst this
    split at hm
    case h_2 => simp [mrun] at hm
    rename_i vs hvs
    obtain ⟨b, ca, fr, g1, g2, g3, g4⟩ := hr.at_ y _ hy
    obtain ⟨es, zs, rs1, uf, q1, q2, q3, q4⟩ := parts_elems hr hk.2 g4 hvs hm
    subst q2
    have hcal : ca.size = cs.length := by have := g4.len; simp at this; omega
    refine fin es uf [y] zs rs1 q3 ?_ q1
    generalize hel : es.length = n at *
    cases hs with
    | slnil => exact .none rfl
    | sl hθ k1 k2 =>
     rw [g1] at hθ
     simp only [Option.some.injEq, Prod.mk.injEq] at hθ
     obtain ⟨rfl, rfl⟩ := hθ
     exact Dst.row (y := y) (by simp) hy g1 g2 g3 k2 (by rw [hcal]; simpa using k1) (fun i hi d c hd => by
      have := q4 i hi d c hd
      rw [Nat.zero_add] at this
      simpa using this)
   | seq => simp [mrun] at hm
   | loopr => simp [mrun] at hm
   | mpc => simp [mrun] at hm
   | mpb => simp [mrun] at hm
 · simp [mrun] at hm
theorem hd2 {α : Type} {l : List α} {a b : α} {r : List α} (h : l = a :: b :: r) : l[0]? = some a ∧ l[1]? = some b := by subst h; exact ⟨rfl, rfl⟩
theorem builtinX_good {b : Builtin} {c : Call} {o : Oper} {a : Act} (ho : o.op = .call c) (hb : c.callee = .builtin b) {nx nx' : Nat} {r : SV} {ups : List (Nat × Option Chunk)} {rs : List Nat} {as : List SV} (hr : HRel P ω w Im θ h) (hfr : ∀ x, nx ≤ x → x < nx' → θ x = none ∧ h x = none)
  (hl : LRel P ω w Im θ as (c.args.map a.eval).toList) (hm : mrun h (builtinX P b c.argTypes.toList as nx) = some (r, ups, nx', rs)) : Good P ω o a w Im θ h r ups nx nx' := by
 have hexec : ∀ (s : Sem Value) (v : Value) (w' : World), s.run P w = .ok v w' → (∀ cs : Array Bool, builtin b c.argTypes o.type cs (c.args.map a.eval) = (do pure (.value (← s)) : Sem Next)) → (execOp a.eval o).run P w = .ok (.value v) w' := by
  intro s v w' hs he
  simp [execOp, ho, resolve, hb, invoke, he, hs]
 unfold builtinX at hm
 split at hm
 · rename_i t t' ts s x hty
   obtain ⟨e1, e2⟩ := hd2 hty
   have hlen := hl.len
   simp only [List.length_cons, List.length_nil] at hlen
   match hus : (c.args.map a.eval).toList, hlen with
   | [us, ux], _ =>
    rw [hus] at hl
    obtain ⟨u1, u2⟩ := hd2 hus
    obtain ⟨v, w', θ', Im', q1, q2, q3, q4⟩ := run_appendX (ty := o.type) hr hfr hm (tys := c.argTypes) (args := c.args.map a.eval) (by simpa using e1) (by simpa using e2) (by simpa using u1) (by simpa using u2) (hl.at_ 0 s us rfl rfl) (hl.at_ 1 x ux rfl rfl)
    exact good_run (hexec _ _ _ q1 (fun _ => rfl)) q2 q3 q4
 · rename_i t ts x hty
   have e1 : c.argTypes[0]? = some t := by
    have := congrArg (·[0]?) hty
    simpa using this
   have hlen := hl.len
   simp only [List.length_cons, List.length_nil] at hlen
   match hus : (c.args.map a.eval).toList, hlen with
   | [ux], _ =>
    rw [hus] at hl
    have u1 : (c.args.map a.eval)[0]? = some ux := by
     have := congrArg (·[0]?) hus
     simpa using this
    obtain ⟨v, q1, q2, rfl, rfl⟩ := run_lenX (ty := o.type) hr hm e1 u1 (hl.at_ 0 x ux rfl rfl)
    exact good_value hr (hexec _ _ _ q1 (fun _ => rfl)) q2
 · rename_i x y
   have hlen := hl.len
   simp only [List.length_cons, List.length_nil] at hlen
   match hus : (c.args.map a.eval).toList, hlen with
   | [ux, uy], _ =>
    rw [hus] at hl
    obtain ⟨v, q1, q2, rfl, rfl⟩ := run_minMaxX (tys := c.argTypes) (ty := o.type) hm (hl.at_ 0 x ux rfl rfl) (hl.at_ 1 y uy rfl rfl) hus
    exact good_value hr (hexec _ _ _ q1 (fun _ => rfl)) q2
 · rename_i x y
   have hlen := hl.len
   simp only [List.length_cons, List.length_nil] at hlen
   match hus : (c.args.map a.eval).toList, hlen with
   | [ux, uy], _ =>
    rw [hus] at hl
    obtain ⟨v, q1, q2, rfl, rfl⟩ := run_minMaxX (tys := c.argTypes) (ty := o.type) hm (hl.at_ 0 x ux rfl rfl) (hl.at_ 1 y uy rfl rfl) hus
    exact good_value hr (hexec _ _ _ q1 (fun _ => rfl)) q2
 · rename_i t t' ts d s hty
   have e1 : c.argTypes[0]? = some t := by
    have := congrArg (·[0]?) hty
    simpa using this
   have hlen := hl.len
   simp only [List.length_cons, List.length_nil] at hlen
   match hus : (c.args.map a.eval).toList, hlen with
   | [ud, us], _ =>
    rw [hus] at hl
    have e : c.args.map a.eval = #[ud, us] := Array.ext' hus
    obtain ⟨v, w', q1, q2, q3, q4, rfl⟩ := run_copyX (ty := o.type) hr hm (hl.at_ 0 _ ud rfl rfl) (hl.at_ 1 _ us rfl rfl) e1 e
    exact good_run (hexec _ _ _ q1 (fun _ => rfl)) (q2.mono (fun _ h => h.elim)) q3 q4
 · rename_i x hty
   have hlen := hl.len
   simp only [List.length_cons, List.length_nil] at hlen
   match hus : (c.args.map a.eval).toList, hlen with
   | [ux], _ =>
    rw [hus] at hl
    have e : c.args.map a.eval = #[ux] := Array.ext' hus
    obtain ⟨v, q1, q2, rfl, rfl⟩ := run_sliceDataX hm (hl.at_ 0 _ ux rfl rfl) c.argTypes o.type
    exact good_value hr (hexec _ _ _ q1 (fun _ => by rw [e]; rfl)) q2
 · rename_i t ts x n hty
   have e1 : c.argTypes[0]? = some t := by
    have := congrArg (·[0]?) hty
    simpa using this
   have hlen := hl.len
   simp only [List.length_cons, List.length_nil] at hlen
   match hus : (c.args.map a.eval).toList, hlen with
   | [ux, un], _ =>
    rw [hus] at hl
    have e : c.args.map a.eval = #[ux, un] := Array.ext' hus
    obtain ⟨v, w', q1, q2, q3, q4, rfl⟩ := run_unsafeStrX (ty := o.type) hr hm (hl.at_ 0 _ ux rfl rfl) (hl.at_ 1 _ un rfl rfl) e1 e
    exact good_run (hexec _ _ _ q1 (fun _ => rfl)) (q2.mono (fun _ h => h.elim)) q3 q4
 · simp [mrun] at hm
theorem ext_weaken {new : Nat → Prop} {h' : HpF} {w' : World} {Im' : Nat → Prop} {θ' : Th} (e : Ext (fun _ => False) h w Im θ h' w' Im' θ') : Ext new h w Im θ h' w' Im' θ' := e.mono (fun _ h => h.elim)
theorem run_sliceX {t : TypeId} {lo hi mx : Option Operand} {x : Operand} {ev : Operand → SV} {a : Act} (hev : ∀ y ∈ (Op.slice t x lo hi mx).operands, VRel P ω w Im θ (ev y) (a.eval y)) {nx nx' : Nat} {r : SV} {ups : List (Nat × Option Chunk)} {rs : List Nat} (hr : HRel P ω w Im θ h)
  (hm : mrun h (sliceX P t lo.isSome hi.isSome mx.isSome ((Op.slice t x lo hi mx).operands.toList.map ev) nx) = some (r, ups, nx', rs)) :
  ∃ v, (Instr.sliceAt t (a.eval x) (lo.map a.eval) (hi.map a.eval) (mx.map a.eval)).run P w = .ok v w ∧ VRel P ω w Im θ r v ∧ ups = [] ∧ nx' = nx := by
 have hm' : mrun h (slcX P t (ev x) (lo.map ev) (hi.map ev) (mx.map ev) nx) = some (r, ups, nx', rs) := by
  cases lo <;> cases hi <;> cases mx <;> first
   | exact hm
   | (simp [sliceX, Op.operands, mrun] at hm; done)
 simp only [Op.operands] at hev
 refine run_slcX hr hm' (hev x (by simp)) (fun h => ?_) (fun v h => ?_) (fun h => ?_) (fun v h => ?_) (fun h => ?_) (fun v h => ?_)
 · cases lo <;> simp_all
 · cases lo with
   | none => cases h
   | some l => cases h; exact ⟨_, rfl, hev l (by simp)⟩
 · cases hi <;> simp_all
 · cases hi with
   | none => cases h
   | some l => cases h; exact ⟨_, rfl, hev l (by simp)⟩
 · cases mx <;> simp_all
 · cases mx with
   | none => cases h
   | some l => cases h; exact ⟨_, rfl, hev l (by simp)⟩
theorem run_fieldAddrX {t : TypeId} {x : SV} {f : Nat} {nx nx' : Nat} {r : SV} {ups : List (Nat × Option Chunk)} {rs : List Nat} (hm : mrun h (fieldAddrX P t x f nx) = some (r, ups, nx', rs)) {u : Value} (hx : VRel P ω w Im θ x u) :
  ∃ v, (Instr.fieldAt t u f).run P w = .ok v w ∧ VRel P ω w Im θ r v ∧ ups = [] ∧ nx' = nx := by
 unfold fieldAddrX at hm
 split at hm
 case h_2 => simp [mrun] at hm
 rename_i fs hu
 split at hm
 case h_2 => simp [mrun] at hm
 rename_i fd hf
 cases hz : Nat.beq (P.cellsOf fd.type) 0 with
 | true => simp [hz, mrun] at hm
 | false =>
  simp only [hz, cond_false] at hm
  have hne : P.cellsOf fd.type ≠ 0 := fun e => by rw [nb_t e] at hz; cases hz
  obtain ⟨i, hi⟩ := info_of_cells hne
  split at hm
  · obtain ⟨rfl, rfl, rfl, _⟩ := mrun_done hm
    cases hx with
    | pel h1 h2 h3 =>
     refine ⟨_, ?_, .pel h1 h2 h3, rfl, rfl⟩
     simp [Instr.fieldAt, run_underlying hu, hf, Instr.sureAddr, fieldPlace, run_sizeOf' hi, hne, add_off, Nat.add_assoc]
  · obtain ⟨rfl, rfl, rfl, _⟩ := mrun_done hm
    cases hx with
    | qp hθ =>
     refine ⟨_, ?_, .qp hθ, rfl, rfl⟩
     simp [Instr.fieldAt, run_underlying hu, hf, Instr.sureAddr, fieldPlace, run_sizeOf' hi, hne, add_off, Nat.add_assoc]
  · simp [mrun] at hm
theorem run_assertX {t xt : TypeId} {ok : Bool} {x : SV} {nx nx' : Nat} {r : SV} {ups : List (Nat × Option Chunk)} {rs : List Nat} (hm : mrun h (assertX P t ok x nx) = some (r, ups, nx', rs)) {u : Value} (hx : VRel P ω w Im θ x u) :
  ∃ v, (Instr.typeAssert u xt t ok).run P w = .ok v w ∧ VRel P ω w Im θ r v ∧ ups = [] ∧ nx' = nx := by
 have pair : ∀ {v : SV} {u : Value} (b : Bool), VRel P ω w Im θ v u → VRel P ω w Im θ (.tup [v, .bool b]) (.tuple #[u, .bool b]) := by
  intro v u b hv
  refine .tup rfl (fun i x y hx hy => ?_)
  match i, hx, hy with
  | 0, hx, hy => cases hx; cases hy; exact hv
  | 1, hx, hy => cases hx; cases hy; exact .bool
 have hno : ∀ {d : TypeDesc}, P.underlying t = some d → (∀ ms, d ≠ .interface ms) → (u = .nilIface ∨ ∃ t' u', u = .iface t' u' ∧ t' ≠ t) → mrun h (assertNo P t ok nx) = some (r, ups, nx', rs) → ∃ v, (Instr.typeAssert u xt t ok).run P w = .ok v w ∧ VRel P ω w Im θ r v ∧ ups = [] ∧ nx' = nx := by
  intro d hd hni hu hm2
  clear hm
  unfold assertNo at hm2
  have hb0 := bif_fail hm2; clear hm2; obtain ⟨hok, hm⟩ := hb0
  subst hok
  split at hm
  case h_2 => simp [mrun] at hm
  · rename_i z hz
    obtain ⟨rfl, rfl, rfl, -⟩ := mrun_done hm
    unfold zeroS at hz
    cases hi : P.info? t with
    | none => simp [hi] at hz
    | some i =>
     simp only [hi] at hz
     cases hzz : i.zero with
     | none => simp [hzz] at hz
     | some zv =>
      simp only [hzz, Option.some.injEq] at hz
      subst hz
      have hzr : (zeroValue t).run P w = .ok zv w := by simp [zeroValue, typeInfo, hi, hzz]
      refine ⟨.tuple #[zv, .bool false], ?_, pair false (ofValue_rel (ω := ω) w Im θ zv), rfl, rfl⟩
      rcases hu with rfl | ⟨t', u', rfl, hne⟩
      · cases d <;> first | exact (hni _ rfl).elim | simp [Instr.typeAssert, run_underlying hd, hzr]
      · cases d <;> first | exact (hni _ rfl).elim | simp [Instr.typeAssert, run_underlying hd, hzr, hne]
 unfold assertX at hm
 split at hm
 · simp [mrun] at hm
 · simp [mrun] at hm
 · rename_i d t' v hni hd
   cases hx with
   | iface hv =>
    rename_i u'
    cases hb : Nat.beq t' t with
    | false =>
     rw [hb] at hm
     exact hno hd (fun ms e => hni ms e) (.inr ⟨t', u', rfl, by intro e; subst e; simp at hb⟩) (by simpa using hm)
    | true =>
     rw [hb] at hm
     have : t' = t := Nat.eq_of_beq_eq_true hb
     subst this
     obtain ⟨rfl, rfl, rfl, -⟩ := mrun_done (by simpa using hm)
     cases ok with
     | false =>
      refine ⟨u', ?_, hv, rfl, rfl⟩
      cases d <;> first | exact (hni _ rfl).elim | simp [Instr.typeAssert, run_underlying hd]
     | true =>
      refine ⟨.tuple #[u', .bool true], ?_, pair true hv, rfl, rfl⟩
      cases d <;> first | exact (hni _ rfl).elim | simp [Instr.typeAssert, run_underlying hd]
 · rename_i d hni hd
   cases hx
   exact hno hd (fun ms e => hni ms e) (.inl rfl) hm
 · simp [mrun] at hm
theorem opX_good {o : Oper} {a : Act} {ev : Operand → SV} {nx nx' : Nat} {r : SV} {ups : List (Nat × Option Chunk)} {rs : List Nat} (hr : HRel P ω w Im θ h) (hev : ∀ x ∈ o.op.operands, VRel P ω w Im θ (ev x) (a.eval x)) (hfr : ∀ x, nx ≤ x → x < nx' → θ x = none ∧ h x = none)
  (hm : mrun h (opX P o.op (o.op.operands.toList.map ev) nx) = some (r, ups, nx', rs)) : Good P ω o a w Im θ h r ups nx nx' := by
 obtain ⟨dst, op, type, pos, after, guard⟩ := o
 simp only at hm hev
 cases op
 case load t x =>
  have hx := hev x (by simp [Op.operands])
  obtain ⟨v, h1, h2, rfl, rfl⟩ := run_loadX hr hm hx
  exact good_value hr (by simp [execOp, h1]) h2
 case store t x v =>
  obtain ⟨w', Im', h1, rfl, rfl, h2, h3⟩ := run_storeX hr hm (hev x (by simp [Op.operands])) (hev v (by simp [Op.operands]))
  exact good_skip (by simp [execOp, h1]) (ext_weaken h2) h3
 case makeInterface t x =>
  have hx := hev x (by simp [Op.operands])
  simp only [opX, Op.operands, List.map_cons, List.map_nil] at hm
  split at hm
  · simp [mrun] at hm
  · rename_i d hni hd
    obtain ⟨rfl, rfl, rfl, _⟩ := mrun_done hm
    refine good_value hr (v := .iface t (a.eval x)) ?_ (.iface hx)
    cases d <;> first | exact (hni _ rfl).elim | simp [execOp, Instr.makeInterface, run_underlying hd]
  · simp [mrun] at hm
 case typeAssert x xt t ok =>
  obtain ⟨v, h1, h2, rfl, rfl⟩ := run_assertX (xt := xt) hm (hev x (by simp [Op.operands]))
  exact good_value hr (by simp [execOp, h1]) h2
 case nilCheck x =>
  have hx := hev x (by simp [Op.operands])
  simp only [Op.operands, List.map_cons, List.map_nil] at hm
  generalize hux : a.eval x = u at hx
  generalize ev x = z at hx hm
  cases z <;> simp only [opX] at hm <;> try (simp [mrun] at hm; done)
  · obtain ⟨rfl, rfl, rfl, _⟩ := mrun_done hm
    refine good_value hr ?_ hx
    cases hx
    simp [execOp, hux]
  · obtain ⟨rfl, rfl, rfl, _⟩ := mrun_done hm
    refine good_value hr ?_ hx
    cases hx
    simp [execOp, hux]
 case fieldAddr t x f =>
  obtain ⟨v, h1, h2, rfl, rfl⟩ := run_fieldAddrX hm (hev x (by simp [Op.operands]))
  exact good_value hr (by simp [execOp, h1]) h2
 case indexAddr t x ix =>
  obtain ⟨v, h1, h2, rfl, rfl⟩ := run_indexAddrX hm (hev x (by simp [Op.operands])) (hev ix (by simp [Op.operands]))
  exact good_value hr (by simp [execOp, h1]) h2
 case slice t x lo hi mx =>
  obtain ⟨v, h1, h2, rfl, rfl⟩ := run_sliceX hev hr hm
  exact good_value hr (by simp [execOp, h1]) h2
 case sliceToArrayPointer t x =>
  obtain ⟨v, h1, h2, rfl, rfl⟩ := run_s2apX hm (hev x (by simp [Op.operands]))
  exact good_value hr (by simp [execOp, h1]) h2
 case makeMap t rv =>
  cases rv with
  | some n => simp [opX, Op.operands, mrun] at hm
  | none =>
   simp only [opX, Op.operands, Option.toArray_none, List.map_nil] at hm
   split at hm
   · rename_i kt et hu
     split at hm
     · rename_i kd hk1 hk2
       obtain ⟨rfl, rfl, rfl, _⟩ := mrun_done hm
       obtain ⟨f1, f2⟩ := hfr nx (Nat.le_refl _) (Nat.lt_succ_self _)
       obtain ⟨v, w', θ', Im', h1, h2, h3, h4⟩ := run_makeMapB (kd := kd) hu hr f1 f2
       exact good_run (by simp [execOp, h1]) h2 h3 h4
     · obtain ⟨rfl, rfl, rfl, _⟩ := mrun_done hm
       obtain ⟨f1, f2⟩ := hfr nx (Nat.le_refl _) (Nat.lt_succ_self _)
       obtain ⟨v, w', θ', Im', h1, h2, h3, h4⟩ := run_makeMapX hu hr f1 f2
       exact good_run (by simp [execOp, h1]) h2 h3 h4
   · simp [mrun] at hm
 case insert t m k x =>
  obtain ⟨w', h1, rfl, rfl, h2, h3⟩ := run_mapSetX hr hm (hev m (by simp [Op.operands])) (hev k (by simp [Op.operands])) (hev x (by simp [Op.operands]))
  exact good_skip (by simp [execOp, h1]) (ext_weaken h2) h3
 case mapUpdate t m k x =>
  obtain ⟨w', h1, rfl, rfl, h2, h3⟩ := run_mapSetX hr hm (hev m (by simp [Op.operands])) (hev k (by simp [Op.operands])) (hev x (by simp [Op.operands]))
  exact good_skip (by simp [execOp, h1]) (ext_weaken h2) h3
 case lookup t m k ok =>
  obtain ⟨v, h1, h2, rfl, rfl⟩ := run_lookupX hr hm (hev m (by simp [Op.operands])) (hev k (by simp [Op.operands]))
  exact good_value hr (by simp [execOp, h1]) h2
 case convert s d x =>
  obtain ⟨v, w', θ', Im', h1, h2, h3, h4⟩ := run_convX hr hfr hm (hev x (by simp [Op.operands]))
  exact good_run (by simp [execOp, h1]) h2 h3 h4
 case unOp op t x =>
  have hx := hev x (by simp [Op.operands])
  simp only [Op.operands, List.map_cons, List.map_nil] at hm
  generalize hux : a.eval x = u at hx
  generalize ev x = z at hx hm
  cases op <;> (try (simp [opX, mrun] at hm; done))
  cases z <;> simp only [opX] at hm <;> try (simp [mrun] at hm; done)
  obtain ⟨rfl, rfl, rfl, _⟩ := mrun_done hm
  cases hx
  exact good_value hr (by simp [execOp, hux, Op.unary, Op.intBits]) .int
 case binOp op t x y yt =>
  have hx := hev x (by simp [Op.operands])
  have hy := hev y (by simp [Op.operands])
  simp only [Op.operands, List.map_cons, List.map_nil] at hm
  generalize hux : a.eval x = u at hx
  generalize huy : a.eval y = v at hy
  generalize ev x = z at hx hm
  generalize ev y = z' at hy hm
  have fin : ∀ (b : Bool), isEq op = some b → ∀ {e : TypeId}, P.underlying t = some (.slice e) → ((∃ q n cap, u = .slice (some q) n cap ∧ v = .slice none 0 0) ∨ (∃ q n cap, v = .slice (some q) n cap ∧ u = .slice none 0 0)) →
    (execOp a.eval { dst := dst, op := .binOp op t x y yt, type := type, pos := pos, after := after, guard := guard }).run P w = .ok (.value (.bool (!b))) w := by
   intro b hb e hu hc
   simp only [execOp, hux, huy]
   have h1 : ¬ (u = .nilIface ∧ v = .nilIface) := by
    rcases hc with ⟨q, n, cap, rfl, rfl⟩ | ⟨q, n, cap, rfl, rfl⟩ <;> (rintro ⟨h, _⟩; cases h)
   have h2 : ∀ xs ys, ¬ (u = .agg xs ∧ v = .agg ys) := by
    rcases hc with ⟨q, n, cap, rfl, rfl⟩ | ⟨q, n, cap, rfl, rfl⟩ <;> (rintro xs ys ⟨h, _⟩; cases h)
   have hq : (Op.equal t u v).run P w = .ok false w := by
    rw [equal_succ]
    generalize (9999 : Nat) = D
    rcases hc with ⟨q, n, cap, rfl, rfl⟩ | ⟨q, n, cap, rfl, rfl⟩ <;> simp [Op.equalIn, run_underlying hu]
   have g := run_eqGuard_skip (P := P) (op := op) (t := t) (x := x) (y := y) (w := w) h1 h2
   have hbin : (binOp op t u v).run P w = .ok (.bool (!b)) w := by
    rcases isEq_some hb with ⟨rfl, rfl⟩ | ⟨rfl, rfl⟩ <;> rcases hc with ⟨q, n, cap, rfl, rfl⟩ | ⟨q, n, cap, rfl, rfl⟩ <;> simp [binOp, hq]
   simp [g, hbin]
  simp only [opX] at hm
  split at hm
  · rename_i hu hb
    obtain ⟨rfl, rfl, rfl, _⟩ := mrun_done hm
    refine good_value hr (fin _ hb hu ?_) .bool
    cases hx
    cases hy
    exact .inl ⟨_, _, _, rfl, rfl⟩
  · rename_i hu hb
    obtain ⟨rfl, rfl, rfl, _⟩ := mrun_done hm
    refine good_value hr (fin _ hb hu ?_) .bool
    cases hx
    cases hy
    exact .inr ⟨_, _, _, rfl, rfl⟩
  · rename_i hu hb
    obtain ⟨rfl, rfl, rfl, _⟩ := mrun_done hm
    refine good_value hr (fin _ hb hu ?_) .bool
    cases hx
    cases hy
    exact .inl ⟨_, _, _, rfl, rfl⟩
  · rename_i hu hb
    have hb0 := mrun_ite_fail' hm; clear hm; obtain ⟨hc, hm⟩ := hb0
    obtain ⟨rfl, rfl, rfl, _⟩ := mrun_done hm
    have hc' := of_decide_eq_true hc
    refine good_value hr (fin _ hb hu ?_) .bool
    cases hx with
    | qs _ _ _ =>
     cases hy
     exact .inl ⟨_, _, _, rfl, rfl⟩
    | qsnil h0 => omega
  · rename_i e a1 i1 b1 j1 r1 hu hb
    have hb0 := bif_fail hm; clear hm; obtain ⟨hk, hm⟩ := hb0
    simp only [Bool.and_eq_true] at hk
    have : a1 = b1 := Nat.eq_of_beq_eq_true hk.1.2
    subst this
    have : i1 = j1 := Nat.eq_of_beq_eq_true hk.2
    subst this
    obtain ⟨q, hq⟩ := known_info hk.1.1
    obtain ⟨rfl, rfl, rfl, _⟩ := mrun_done hm
    refine good_value hr ?_ .bool
    cases hx with
    | ptr g1 =>
     cases hy with
     | ptr g2 =>
      rw [g1] at g2
      simp only [Option.some.injEq, Prod.mk.injEq] at g2
      obtain ⟨rfl, rfl⟩ := g2
      simp only [execOp, hux, huy]
      rename_i bb NN
      have heq : (Op.equal t (.pointer (some ⟨bb, i1, none⟩)) (.pointer (some ⟨bb, i1, none⟩))).run P w = .ok true w := by
       rw [equal_succ]
       generalize (9999 : Nat) = D
       simp [Op.equalIn, run_underlying hu, sizeOf, typeInfo, hq, run_sameAddr_same]
      have g := run_eqGuard_skip (P := P) (op := op) (t := t) (x := x) (y := y) (w := w) (a := .pointer (some ⟨bb, i1, none⟩)) (b := .pointer (some ⟨bb, i1, none⟩)) (by rintro ⟨h, _⟩; cases h) (by rintro xs ys ⟨h, _⟩; cases h)
      have hbin : (binOp op t (.pointer (some ⟨bb, i1, none⟩)) (.pointer (some ⟨bb, i1, none⟩))).run P w = .ok (.bool r1) w := by
       rcases isEq_some hb with ⟨rfl, rfl⟩ | ⟨rfl, rfl⟩ <;> simp [binOp, heq]
      simp [g, hbin]
  · simp [mrun] at hm
 case call c =>
  simp only [opX] at hm
  split at hm
  · rename_i b hb
    refine builtinX_good (c := c) (b := b) rfl hb hr hfr ?_ hm
    simp only [Op.operands, Call.operands, hb] at hev ⊢
    refine ⟨by simp, fun i v u hv hu => ?_⟩
    simp only [List.getElem?_map, Array.getElem?_toList, Option.map_eq_some_iff] at hv
    obtain ⟨q, hq, rfl⟩ := hv
    simp only [Array.toList_map, List.getElem?_map, Array.getElem?_toList, Option.map_eq_some_iff] at hu
    obtain ⟨q', hq', rfl⟩ := hu
    simp only [Array.empty_append] at hq
    rw [hq'] at hq
    cases hq
    exact hev _ (by simp; exact Array.mem_of_getElem? hq')
  · rename_i f hcal
    split at hm
    case h_2 => simp [mrun] at hm
    rename_i g args has
    obtain ⟨callee, cargs, argTypes⟩ := c
    simp only at hcal
    subst hcal
    simp only [Op.operands, Call.operands] at has hev
    have has' : ev f :: cargs.toList.map ev = .fn (.func g) [] [] :: args := by simpa using has
    simp only [List.cons.injEq] at has'
    obtain ⟨he, rfl⟩ := has'
    have hf := hev f (by simp)
    rw [he] at hf
    generalize hu : a.eval f = u at hf
    cases hf with
    | fn h1 h2 h3 h4 =>
     rename_i us vs
     have e1 : us = #[] := by apply Array.ext'; exact List.eq_nil_of_length_eq_zero (by simpa using h1.symm)
     have e2 : vs = #[] := by apply Array.ext'; exact List.eq_nil_of_length_eq_zero (by simpa using h2.symm)
     subst e1
     subst e2
     have hl : LRel P ω w Im θ (cargs.toList.map ev) (cargs.map a.eval).toList := by
      refine ⟨by simp, fun i v u hv hu => ?_⟩
      simp only [List.getElem?_map, Array.getElem?_toList, Option.map_eq_some_iff] at hv
      obtain ⟨q, hq, rfl⟩ := hv
      simp only [Array.toList_map, List.getElem?_map, Array.getElem?_toList, Option.map_eq_some_iff] at hu
      obtain ⟨q', hq', rfl⟩ := hu
      rw [hq'] at hq
      cases hq
      exact hev _ (by simp; exact .inr (Array.mem_of_getElem? hq'))
     obtain ⟨v, w', θ', Im', q1, q2, q3, q4⟩ := run_externX hr hfr hm hl
     refine good_run ?_ q2 q3 q4
     have : (execOp a.eval { dst := dst, op := .call { callee := .value f, args := cargs, argTypes := argTypes }, type := type, pos := pos, after := after, guard := guard }).run P w = (callFunc g (cargs.map a.eval)).run P w := by
      simp [execOp, resolve, hu, Deferred.ofValue, invoke]
     rw [this]
     exact q1
  · simp [mrun] at hm
 all_goals (simp [opX, mrun] at hm)
end
end Go.Am
/- The abstract machine: a call, by what is known of the callee. -/
namespace Go.Am
variable {P : Program} {ω : Nat → Value}
def Canon (H : HpL) : Prop := ∀ (i : Nat) p, H[i]? = some p → p.1 = i
def ValidC (P : Program) (f : FuncId) (s : CSumm) : Prop :=
 ∀ (args : List SV) (H : HpL) v ups, crun (s args H) = some (v, ups) → Canon H → ∀ (ω : Nat → Value) (θ : Th) (Im : Nat → Prop) (w : World) (us : List Value),
  LRel P ω w Im θ args us → HRel P ω w Im θ H.get → (∀ x, H.length ≤ x → θ x = none) →
  Calls P f us.toArray w fun e w' => ∃ u θ' Im', e = .returned u ∧ Ext (fun x => H.length ≤ x) H.get w Im θ (updF ups H.get) w' Im' θ' ∧ VRel P ω w' Im' θ' v u ∧ HRel P ω w' Im' θ' (updF ups H.get)
theorem namesS_mem {v : SV} {vs : List SV} (h : v ∈ vs) : ∀ x ∈ namesS v, x ∈ namesL vs := by
 induction vs with
 | nil => cases h
 | cons w vs ih =>
  intro x hx
  simp only [namesL, List.mem_append]
  rcases List.mem_cons.1 h with rfl | h
  · exact .inl hx
  · exact .inr (ih h x hx)
theorem renL_eq (f : Nat → Nat) (vs : List SV) : renL f vs = vs.map (renS f) := by
 induction vs with
 | nil => rfl
 | cons v vs ih => simp [renL, ih]
theorem VRel.ren {w : World} {Im : Nat → Prop} {θ : Th} {v : SV} {u : Value} (h : VRel P ω w Im θ v u) : ∀ {θ2 : Th} (f : Nat → Nat), (∀ x ∈ namesS v, ∀ p, θ x = some p → θ2 (f x) = some p) → VRel P ω w Im θ2 (renS f v) u := by
 have lst : ∀ {ω : Nat → Value} {θ θ2 : Th} (f : Nat → Nat) (cs : List SV) (us : Array Value),
   (∀ (i : Nat) (v : SV) (u : Value), cs[i]? = some v → us[i]? = some u → ∀ {θ2 : Th} (f : Nat → Nat), (∀ x ∈ namesS v, ∀ p, θ x = some p → θ2 (f x) = some p) → VRel P ω w Im θ2 (renS f v) u) →
   (∀ x ∈ namesL cs, ∀ p, θ x = some p → θ2 (f x) = some p) → ∀ (i : Nat) (v : SV) (u : Value), (renL f cs)[i]? = some v → us[i]? = some u → VRel P ω w Im θ2 v u := by
  intro ω θ θ2 f cs us ih hn i v u hv hu
  rw [renL_eq, List.getElem?_map, Option.map_eq_some_iff] at hv
  obtain ⟨c, hc, rfl⟩ := hv
  exact ih i c u hc hu f (fun x hx => hn x (namesS_mem (List.mem_of_getElem? hc) x hx))
 induction h with
 | junk => intro _ f _; exact .junk
 | opq => intro _ f _; exact .opq
 | pnn h _ => intro _ f _; exact .pnn (by cases h with | psl us h1 h0 h2 h3 h4 => exact .psl us h1 h0 h2 h3 h4)
 | emp => intro _ f _; exact .emp
 | qs h1 h2 h3 => intro _ f hn; exact .qs (hn _ (by simp [namesS]) _ h1) h2 h3
 | qsnil h => intro _ f _; exact .qsnil h
 | qp h => intro _ f hn; exact .qp (hn _ (by simp [namesS]) _ h)
 | bool => intro _ f _; exact .bool
 | int => intro _ f _; exact .int
 | str h => intro _ f _; exact .str h
 | ptr h => intro _ f hn; exact .ptr (hn _ (by simp [namesS]) _ h)
 | nilp => intro _ f _; exact .nilp
 | pel h1 h2 h3 _ => intro _ f _; exact .pel h1 h2 h3
 | sl h1 h2 h3 => intro _ f hn; exact .sl (hn _ (by simp [namesS]) _ h1) h2 h3
 | slnil => intro _ f _; exact .slnil
 | nils => intro _ f _; exact .nils
 | psl us h1 h0 h2 h3 h4 _ => intro _ f _; exact .psl us h1 h0 h2 h3 h4
 | mp h => intro _ f hn; exact .mp (hn _ (by simp [namesS]) _ h)
 | nilm => intro _ f _; exact .nilm
 | yl h => intro _ f hn; exact .yl (hn _ (by simp [namesS]) _ h)
 | fn h1 h2 _ _ ih1 ih2 =>
  intro θ2 f hn
  simp only [namesS, List.mem_append] at hn
  simp only [renS]
  exact .fn (by rw [renL_eq]; simpa using h1) (by rw [renL_eq]; simpa using h2) (lst f _ _ ih1 (fun x hx => hn x (.inl hx))) (lst f _ _ ih2 (fun x hx => hn x (.inr hx)))
 | nilf => intro _ f _; exact .nilf
 | iface _ ih => intro _ f hn; simp only [renS]; exact .iface (ih f (by simpa [namesS] using hn))
 | nili => intro _ f _; exact .nili
 | agg h1 _ ih =>
  intro θ2 f hn
  simp only [renS]
  exact .agg (by rw [renL_eq]; simpa using h1) (lst f _ _ ih (by simpa [namesS] using hn))
 | tup h1 _ ih =>
  intro θ2 f hn
  simp only [renS]
  exact .tup (by rw [renL_eq]; simpa using h1) (lst f _ _ ih (by simpa [namesS] using hn))
theorem LRel.ren {w : World} {Im : Nat → Prop} {θ θ2 : Th} {cs : List SV} {us : List Value} (h : LRel P ω w Im θ cs us) (f : Nat → Nat) (hn : ∀ x ∈ namesL cs, ∀ p, θ x = some p → θ2 (f x) = some p) : LRel P ω w Im θ2 (renL f cs) us := by
 refine ⟨by rw [renL_eq]; simpa using h.len, fun i v u hv hu => ?_⟩
 rw [renL_eq, List.getElem?_map, Option.map_eq_some_iff] at hv
 obtain ⟨c, hc, rfl⟩ := hv
 exact (h.at_ i c u hc hu).ren f (fun x hx => hn x (namesS_mem (List.mem_of_getElem? hc) x hx))
theorem namesL_keysB (kd : IntKind) : ∀ kvs : List (Int × Bool), namesL (keysB kd kvs) = []
 | [] => rfl
 | _ :: l => namesL_keysB kd l
theorem namesL_valsB : ∀ kvs : List (Int × Bool), namesL (valsB kvs) = []
 | [] => rfl
 | _ :: l => namesL_valsB l
theorem renL_keysB (f : Nat → Nat) (kd : IntKind) : ∀ kvs : List (Int × Bool), renL f (keysB kd kvs) = keysB kd kvs
 | [] => rfl
 | p :: l => by show _ :: renL f (keysB kd l) = _ :: keysB kd l; rw [renL_keysB f kd l]; rfl
theorem renL_valsB (f : Nat → Nat) : ∀ kvs : List (Int × Bool), renL f (valsB kvs) = valsB kvs
 | [] => rfl
 | p :: l => by show _ :: renL f (valsB l) = _ :: valsB l; rw [renL_valsB f l]; rfl
theorem CRel.ren {w : World} {Im : Nat → Prop} {θ θ2 : Th} {x : Nat} {c : Chunk} (h : CRel P ω w Im θ x c) (f : Nat → Nat) (hn : ∀ x ∈ namesC c, ∀ p, θ x = some p → θ2 (f x) = some p) {y : Nat} (hy : θ2 y = θ x) : CRel P ω w Im θ2 y (renC f c) := by
 cases c with
 | cells T vs =>
  obtain ⟨b, cs, fr, h1, h2, h3, h4⟩ := h
  exact ⟨b, cs, fr, by rw [hy, h1, renL_eq]; simp, h2, h3, h4.ren f hn⟩
 | seq e es =>
  rcases h with ⟨h1, h2⟩ | ⟨b, N, cs, T, fr, us, h1, h2⟩
  · exact .inl ⟨h1, by rw [hy]; exact h2⟩
  · exact .inr ⟨b, N, cs, T, fr, us, by rw [hy]; exact h1, h2⟩
 | loopr st vs ps asg bdy =>
  obtain ⟨b, N, lp, h1, h2, h3, h4, h5, h6, h7⟩ := h
  exact ⟨b, N, lp, by rw [hy]; exact h1, h2, h3, h4, h5, h6, h7.ren f hn⟩
 | mpc ks vs =>
  obtain ⟨b, N, es, cl, h1, h2, h3, h4, h5⟩ := h
  exact ⟨b, N, es, cl, by rw [hy]; exact h1, h2, h3.ren f (fun x hx => hn x (List.mem_append.2 (.inl hx))), h4.ren f (fun x hx => hn x (List.mem_append.2 (.inr hx))), h5⟩
 | mpb kd kvs =>
  obtain ⟨b, N, es, cl, h1, h2, h3, h4, h5⟩ := h
  have e1 : ∀ x ∈ namesL (keysB kd kvs), ∀ p, θ x = some p → θ2 (f x) = some p := fun x hx => by rw [namesL_keysB] at hx; cases hx
  have e2 : ∀ x ∈ namesL (valsB kvs), ∀ p, θ x = some p → θ2 (f x) = some p := fun x hx => by rw [namesL_valsB] at hx; cases hx
  have g3 := h3.ren f e1
  have g4 := h4.ren f e2
  rw [renL_keysB] at g3
  rw [renL_valsB] at g4
  exact ⟨b, N, es, cl, by rw [hy]; exact h1, h2, g3, g4, h5⟩
mutual
theorem renS_id (f g : Nat → Nat) : ∀ (v : SV), (∀ x ∈ namesS v, g (f x) = x) → renS g (renS f v) = v
 | .ptr x o, h => by simp only [renS]; rw [h x (by simp [namesS])]
 | .sl x sz o l, h => by simp only [renS]; rw [h x (by simp [namesS])]
 | .qs x sz o l, h => by simp only [renS]; rw [h x (by simp [namesS])]
 | .qp x sz o l, h => by simp only [renS]; rw [h x (by simp [namesS])]
 | .mp x, h => by simp only [renS]; rw [h x (by simp [namesS])]
 | .yl x, h => by simp only [renS]; rw [h x (by simp [namesS])]
 | .fn k a b, h => by
  simp only [namesS, List.mem_append] at h
  simp only [renS]
  rw [renL_id f g a (fun x hx => h x (.inl hx)), renL_id f g b (fun x hx => h x (.inr hx))]
 | .iface t v, h => by simp only [renS]; rw [renS_id f g v (by simpa [namesS] using h)]
 | .agg cs, h => by simp only [renS]; rw [renL_id f g cs (by simpa [namesS] using h)]
 | .tup cs, h => by simp only [renS]; rw [renL_id f g cs (by simpa [namesS] using h)]
 | .junk, _ | .pnn _ _, _ | .opq _, _ | .emp, _ | .bool _, _ | .int _ _, _ | .str _, _ | .nilp, _ | .pel _ _, _ | .nils, _ | .psl _ _, _ | .nilm, _ | .nilf, _ | .nili, _ => rfl
theorem renL_id (f g : Nat → Nat) : ∀ (vs : List SV), (∀ x ∈ namesL vs, g (f x) = x) → renL g (renL f vs) = vs
 | [], _ => rfl
 | v :: vs, h => by
  simp only [namesL, List.mem_append] at h
  simp only [renL]
  rw [renS_id f g v (fun x hx => h x (.inl hx)), renL_id f g vs (fun x hx => h x (.inr hx))]
end
mutual
theorem namesS_ren (f : Nat → Nat) (z : Nat) : ∀ (v : SV), z ∈ namesS (renS f v) → ∃ y ∈ namesS v, z = f y
 | .ptr x o, h => ⟨x, by simp [namesS], by simpa [renS, namesS] using h⟩
 | .sl x sz o l, h => ⟨x, by simp [namesS], by simpa [renS, namesS] using h⟩
 | .qs x sz o l, h => ⟨x, by simp [namesS], by simpa [renS, namesS] using h⟩
 | .qp x sz o l, h => ⟨x, by simp [namesS], by simpa [renS, namesS] using h⟩
 | .mp x, h => ⟨x, by simp [namesS], by simpa [renS, namesS] using h⟩
 | .yl x, h => ⟨x, by simp [namesS], by simpa [renS, namesS] using h⟩
 | .fn k a b, h => by
  simp only [renS, namesS, List.mem_append] at h
  rcases h with h | h
  · obtain ⟨y, hy, e⟩ := namesL_ren f z a h
    exact ⟨y, by simp only [namesS, List.mem_append]; exact .inl hy, e⟩
  · obtain ⟨y, hy, e⟩ := namesL_ren f z b h
    exact ⟨y, by simp only [namesS, List.mem_append]; exact .inr hy, e⟩
 | .iface t v, h => by
  obtain ⟨y, hy, e⟩ := namesS_ren f z v (by simpa [renS, namesS] using h)
  exact ⟨y, by simpa [namesS] using hy, e⟩
 | .agg cs, h => by
  obtain ⟨y, hy, e⟩ := namesL_ren f z cs (by simpa [renS, namesS] using h)
  exact ⟨y, by simpa [namesS] using hy, e⟩
 | .tup cs, h => by
  obtain ⟨y, hy, e⟩ := namesL_ren f z cs (by simpa [renS, namesS] using h)
  exact ⟨y, by simpa [namesS] using hy, e⟩
 | .junk, h | .pnn _ _, h | .opq _, h | .emp, h | .bool _, h | .int _ _, h | .str _, h | .nilp, h | .pel _ _, h | .nils, h | .psl _ _, h | .nilm, h | .nilf, h | .nili, h => by simp [renS, namesS] at h
theorem namesL_ren (f : Nat → Nat) (z : Nat) : ∀ (vs : List SV), z ∈ namesL (renL f vs) → ∃ y ∈ namesL vs, z = f y
 | [], h => by simp [renL, namesL] at h
 | v :: vs, h => by
  simp only [renL, namesL, List.mem_append] at h
  rcases h with h | h
  · obtain ⟨y, hy, e⟩ := namesS_ren f z v h
    exact ⟨y, by simp only [namesL, List.mem_append]; exact .inl hy, e⟩
  · obtain ⟨y, hy, e⟩ := namesL_ren f z vs h
    exact ⟨y, by simp only [namesL, List.mem_append]; exact .inr hy, e⟩
end
theorem renC_id (f g : Nat → Nat) (c : Chunk) (h : ∀ x ∈ namesC c, g (f x) = x) : renC g (renC f c) = c := by
 cases c with
 | cells T vs => simp only [renC]; rw [renL_id f g vs h]
 | seq e es => rfl
 | loopr st vs ps asg bdy => simp only [renC]; rw [renL_id f g vs h]
 | mpc ks vs => simp only [renC]; rw [renL_id f g ks (fun x hx => h x (List.mem_append.2 (.inl hx))), renL_id f g vs (fun x hx => h x (List.mem_append.2 (.inr hx)))]
 | mpb kd kvs => rfl
theorem memN_iff : ∀ (x : Nat) (l : List Nat), memN x l = true ↔ x ∈ l
 | x, [] => by simp [memN]
 | x, y :: l => by
  have ih := memN_iff x l
  simp only [memN, Bool.or_eq_true, List.mem_cons, ih]
  constructor
  · rintro (h | h)
    · exact .inl (Nat.eq_of_beq_eq_true h)
    · exact .inr h
  · rintro (h | h)
    · exact .inl (nb_t h)
    · exact .inr h
theorem idxN_spec : ∀ (l : List Nat) (x : Nat), x ∈ l → idxN l x < l.length ∧ l[idxN l x]? = some x
 | [], _, h => by cases h
 | y :: l, x, h => by
  simp only [idxN]
  by_cases e : y = x
  · subst e; rw [nb_t rfl]; simp
  · rw [nb_f e]
    have hx : x ∈ l := by rcases List.mem_cons.1 h with h | h; exact absurd h.symm e; exact h
    have := idxN_spec l x hx
    simp only [cond_false, List.length_cons, List.getElem?_cons_succ]
    exact ⟨by omega, this.2⟩
theorem idxN_at {l : List Nat} (hd : l.Nodup) {i : Nat} {x : Nat} (h : l[i]? = some x) : idxN l x = i := by
 have hm := List.mem_of_getElem? h
 have := idxN_spec l x hm
 have hi : i < l.length := by
  rcases Nat.lt_or_ge i l.length with h1 | h1
  · exact h1
  · simp [List.getElem?_eq_none h1] at h
 have e1 : l[idxN l x]'this.1 = x := (List.getElem?_eq_some_iff.1 this.2).2
 have e2 : l[i] = x := (List.getElem?_eq_some_iff.1 h).2
 exact (List.getElem_inj hd).1 (e1.trans e2.symm)
/- The blocks that a call is handed. -/
structure Closed (h : HpF) (acc : HpL) : Prop where
 at_ : ∀ p ∈ acc, h p.1 = some p.2
 nodup : (acc.map (·.1)).Nodup
theorem closeM_spec {h : HpF} {k : HpL → OpM} {r : SV} {ups : List (Nat × Option Chunk)} {nx' : Nat} : ∀ (d : Nat) (todo : List Nat) (acc : HpL) (rs : List Nat), mrun h (closeM k d todo acc) = some (r, ups, nx', rs) → Closed h acc →
  (∀ p ∈ acc, ∀ x ∈ namesC p.2, x ∈ acc.map (·.1) ∨ x ∈ todo) →
  ∃ acc' rs1 rs2, Closed h acc' ∧ (∀ p ∈ acc', ∀ x ∈ namesC p.2, x ∈ acc'.map (·.1)) ∧ (∀ x ∈ todo, x ∈ acc'.map (·.1)) ∧ (∀ x ∈ acc.map (·.1), x ∈ acc'.map (·.1)) ∧
   (∀ x, x ∈ acc'.map (·.1) → x ∈ acc.map (·.1) ∨ x ∈ rs1) ∧ mrun h (k acc') = some (r, ups, nx', rs2) ∧ rs = rs1 ++ rs2
 | 0, _, _, rs, hm, _, _ => by simp [closeM, mrun] at hm
 | d + 1, [], acc, rs, hm, hc, hn => by
  simp only [closeM] at hm
  refine ⟨acc, [], rs, hc, ?_, ?_, fun _ h => h, fun x hx => .inl hx, hm, rfl⟩
  · intro p hp x hx
    rcases hn p hp x hx with h1 | h1
    · exact h1
    · cases h1
  · intro x hx; cases hx
 | d + 1, x :: todo, acc, rs, hm, hc, hn => by
  simp only [closeM] at hm
  cases hmem : memN x (acc.map (·.1)) with
  | true =>
   rw [hmem] at hm
   simp only [cond_true] at hm
   have hxa := (memN_iff _ _).1 hmem
   obtain ⟨acc', rs1, rs2, g1, g2, g3, g0, g4, g5, g6⟩ := closeM_spec d todo acc rs hm hc (by
    intro p hp y hy
    rcases hn p hp y hy with h1 | h1
    · exact .inl h1
    · rcases List.mem_cons.1 h1 with rfl | h1
      · exact .inl hxa
      · exact .inr h1)
   refine ⟨acc', rs1, rs2, g1, g2, ?_, g0, g4, g5, g6⟩
   intro y hy
   rcases List.mem_cons.1 hy with rfl | hy
   · exact g0 _ hxa
   · exact g3 y hy
  | false =>
   rw [hmem] at hm
   simp only [cond_false, mrun] at hm
   have hxa : x ∉ acc.map (·.1) := fun hh => by rw [(memN_iff _ _).2 hh] at hmem; cases hmem
   cases hx : h x with
   | none => simp [hx] at hm
   | some c =>
    simp only [hx] at hm
    cases hr : mrun h (closeM k d (namesC c ++ todo) ((x, c) :: acc)) with
    | none => simp [hr] at hm
    | some q =>
     obtain ⟨r0, ups0, nx0, rs0⟩ := q
     simp only [hr, Option.some.injEq, Prod.mk.injEq] at hm
     obtain ⟨rfl, rfl, rfl, rfl⟩ := hm
     have hc' : Closed h ((x, c) :: acc) := by
      refine ⟨?_, ?_⟩
      · intro p hp
        rcases List.mem_cons.1 hp with rfl | hp
        · exact hx
        · exact hc.at_ p hp
      · simp only [List.map_cons, List.nodup_cons]; exact ⟨hxa, hc.nodup⟩
     obtain ⟨acc', rs1, rs2, g1, g2, g3, g0, g4, g5, g6⟩ := closeM_spec d (namesC c ++ todo) ((x, c) :: acc) rs0 hr hc' (by
       intro p hp y hy
       rcases List.mem_cons.1 hp with rfl | hp
       · exact .inr (List.mem_append.2 (.inl hy))
       · rcases hn p hp y hy with h1 | h1
         · exact .inl (by simp only [List.map_cons, List.mem_cons]; exact .inr h1)
         · rcases List.mem_cons.1 h1 with rfl | h1
           · exact .inl (by simp)
           · exact .inr (List.mem_append.2 (.inr h1)))
     refine ⟨acc', x :: rs1, rs2, g1, g2, ?_, ?_, ?_, g5, by rw [g6]; rfl⟩
     · intro y hy
       rcases List.mem_cons.1 hy with rfl | hy
       · exact g0 _ (by simp)
       · exact g3 y (List.mem_append.2 (.inr hy))
     · intro y hy
       exact g0 y (by simp only [List.map_cons, List.mem_cons]; exact .inr hy)
     · intro y hy
       rcases g4 y hy with h1 | h1
       · simp only [List.map_cons, List.mem_cons] at h1
         rcases h1 with rfl | h1
         · exact .inr (by simp)
         · exact .inl h1
       · exact .inr (List.mem_cons.2 (.inr h1))
theorem locHeap_len (f : Nat → Nat) : ∀ (l : HpL) (i : Nat), (locHeap f l i).length = l.length
 | [], _ => rfl
 | _ :: l, i => by simp [locHeap, locHeap_len f l (i + 1)]
theorem locHeap_at (f : Nat → Nat) : ∀ (l : HpL) (i j : Nat), (locHeap f l i)[j]? = (l[j]?).map fun p => (i + j, renC f p.2)
 | [], _, _ => by simp [locHeap]
 | (x, c) :: l, i, 0 => by simp [locHeap]
 | (x, c) :: l, i, j + 1 => by
  simp only [locHeap, List.getElem?_cons_succ]
  rw [locHeap_at f l (i + 1) j]
  congr 1
  funext p
  simp; omega
theorem locHeap_get (f : Nat → Nat) : ∀ (l : HpL) (i y : Nat), HpL.get (locHeap f l i) (i + y) = (l[y]?).map fun p => renC f p.2
 | [], _, _ => by simp [locHeap, HpL.get]
 | (x, c) :: l, i, 0 => by simp [locHeap, HpL.get]
 | (x, c) :: l, i, y + 1 => by
  have h : ¬ i = i + (y + 1) := by omega
  simp only [locHeap, HpL.get, nb_f h, cond_false, List.getElem?_cons_succ]
  have := locHeap_get f l (i + 1) y
  rw [show i + 1 + y = i + (y + 1) by omega] at this
  exact this
theorem updF_not {x : Nat} : ∀ {l : List (Nat × Option Chunk)} {h : HpF}, x ∉ l.map (·.1) → updF l h x = h x
 | [], _, _ => rfl
 | (y, c) :: l, h, hx => by
  simp only [List.map_cons, List.mem_cons, not_or] at hx
  simp only [updF]
  rw [updF_not hx.2]
  simp [hx.1]
theorem backUps_keys (f : Nat → Nat) : ∀ (l : List (Nat × Option Chunk)), (backUps f l).map (·.1) = l.map (fun p => f p.1)
 | [] => rfl
 | (y, some c) :: l => by simp [backUps, backUps_keys f l]
 | (y, none) :: l => by simp [backUps, backUps_keys f l]
theorem updF_back {f : Nat → Nat} {B : Nat} (hinj : ∀ x y, x < B → y < B → f x = f y → x = y) : ∀ (l : List (Nat × Option Chunk)) (h h' : HpF) (y : Nat), (∀ p ∈ l, p.1 < B) → y ∈ l.map (·.1) →
  updF (backUps f l) h' (f y) = (updF l h y).map (renC f)
 | [], _, _, _, _, hy => by cases hy
 | (x, c) :: l, h, h', y, hB, hy => by
  have hxB := hB (x, c) (by simp)
  have hlB : ∀ p ∈ l, p.1 < B := fun p hp => hB p (by simp [hp])
  have hb : ∀ (h' : HpF), updF (backUps f ((x, c) :: l)) h' = updF (backUps f l) (fun z => if z = f x then c.map (renC f) else h' z) := by
   intro h'; cases c <;> rfl
  rw [hb]
  simp only [updF]
  by_cases hyl : y ∈ l.map (·.1)
  · exact updF_back hinj l _ _ y hlB hyl
  · have hyx : y = x := by
      simp only [List.map_cons, List.mem_cons] at hy
      rcases hy with h1 | h1
      · exact h1
      · exact absurd h1 hyl
    subst hyx
    rw [updF_not hyl]
    have : f y ∉ (backUps f l).map (·.1) := by
     rw [backUps_keys]
     intro hh
     obtain ⟨p, hp, he⟩ := List.mem_map.1 hh
     have := hinj _ _ (hlB p hp) hxB he
     exact hyl (List.mem_map.2 ⟨p, hp, this⟩)
    rw [updF_not this]
    simp
theorem boundN_ge : ∀ (l : List Nat) (n : Nat), n ≤ boundN l n
 | [], _ => Nat.le_refl _
 | y :: l, n => by
  simp only [boundN]
  have := boundN_ge l (bif Nat.blt n (y + 1) then y + 1 else n)
  cases h : Nat.blt n (y + 1) with
  | true =>
   have h1 : n < y + 1 := by rw [Nat.blt_eq] at h; exact h
   rw [h] at this
   simp only [cond_true] at this ⊢
   omega
  | false => rw [h] at this; simpa using this
theorem boundN_mem : ∀ (l : List Nat) (n : Nat), ∀ y ∈ l, y < boundN l n
 | [], _, _, h => by cases h
 | z :: l, n, y, h => by
  simp only [boundN]
  rcases List.mem_cons.1 h with rfl | h
  · have := boundN_ge l (bif Nat.blt n (y + 1) then y + 1 else n)
    cases hb : Nat.blt n (y + 1) with
    | true => rw [hb] at this; simp only [cond_true] at this ⊢; omega
    | false =>
     have h1 : ¬ n < y + 1 := by intro hh; rw [← Nat.blt_eq] at hh; rw [hh] at hb; cases hb
     rw [hb] at this; simp only [cond_false] at this ⊢; omega
  · exact boundN_mem l _ y h
theorem namesU_key : ∀ {l : List (Nat × Option Chunk)} {p}, p ∈ l → p.1 ∈ namesU l
 | (y, some c) :: l, p, h => by
  simp only [namesU, List.mem_cons, List.mem_append]
  rcases List.mem_cons.1 h with rfl | h
  · exact .inl rfl
  · exact .inr (.inr (namesU_key h))
 | (y, none) :: l, p, h => by
  simp only [namesU, List.mem_cons]
  rcases List.mem_cons.1 h with rfl | h
  · exact .inl rfl
  · exact .inr (namesU_key h)
theorem namesU_chunk : ∀ {l : List (Nat × Option Chunk)} {y c}, (y, some c) ∈ l → ∀ x ∈ namesC c, x ∈ namesU l
 | (z, some d) :: l, y, c, h, x, hx => by
  simp only [namesU, List.mem_cons, List.mem_append]
  rcases List.mem_cons.1 h with e | h
  · cases e; exact .inr (.inl hx)
  · exact .inr (.inr (namesU_chunk h x hx))
 | (z, none) :: l, y, c, h, x, hx => by
  simp only [namesU, List.mem_cons]
  rcases List.mem_cons.1 h with e | h
  · cases e
  · exact .inr (namesU_chunk h x hx)
theorem updF_mem : ∀ {l : List (Nat × Option Chunk)} {h : HpF} {y : Nat} {c : Chunk}, updF l h y = some c → (y, some c) ∈ l ∨ (y ∉ l.map (·.1) ∧ h y = some c)
 | [], _, _, _, e => .inr ⟨by simp, e⟩
 | (x, d) :: l, h, y, c, e => by
  simp only [updF] at e
  rcases updF_mem e with h1 | ⟨h1, h2⟩
  · exact .inl (by simp [h1])
  · by_cases hyx : y = x
    · subst hyx
      simp at h2
      subst h2
      exact .inl (by simp)
    · simp [hyx] at h2
      refine .inr ⟨?_, h2⟩
      simp only [List.map_cons, List.mem_cons, not_or]
      exact ⟨hyx, h1⟩
theorem updF_key {l : List (Nat × Option Chunk)} {h h' : HpF} {y : Nat} (hy : y ∈ l.map (·.1)) : updF l h y = updF l h' y := by
 induction l generalizing h h' with
 | nil => cases hy
 | cons p l ih =>
  obtain ⟨x, c⟩ := p
  simp only [updF]
  by_cases hyl : y ∈ l.map (·.1)
  · exact ih hyl
  · rw [updF_not hyl, updF_not hyl]
    simp only [List.map_cons, List.mem_cons] at hy
    rcases hy with rfl | hy
    · simp
    · exact absurd hy hyl
theorem ofCTree_run {h : HpF} {ns : List Nat} {m nx nx' : Nat} {r : SV} {ups : List (Nat × Option Chunk)} {rs : List Nat} : ∀ (t : CTree), mrun h (ofCTree ns m nx t) = some (r, ups, nx', rs) →
  ∃ v u, crun t = some (v, u) ∧ r = renS (backName ns m nx) v ∧ ups = backUps (backName ns m nx) u ∧ nx' = nx + (boundN (namesS v ++ namesU u) m - m)
 | .ret v u, hm => by
  simp only [ofCTree, mrun, Option.some.injEq, Prod.mk.injEq] at hm
  exact ⟨v, u, rfl, hm.1.symm, hm.2.1.symm, hm.2.2.1.symm⟩
 | .ite b t e, hm => by
  simp only [ofCTree, mrun] at hm
  cases b
  · simp only [Bool.false_eq_true, if_false] at hm
    obtain ⟨v, u, h1, h2⟩ := ofCTree_run e hm
    exact ⟨v, u, by simpa [crun] using h1, h2⟩
  · simp only [if_true] at hm
    obtain ⟨v, u, h1, h2⟩ := ofCTree_run t hm
    exact ⟨v, u, by simpa [crun] using h1, h2⟩
 | .fail, hm => by simp [ofCTree, mrun] at hm
structure KOk (P : Program) (κ : Nat → Option CSumm) : Prop where
 fn : ∀ f s, κ f = some s → ∃ fn, P.funcs[f]? = some fn ∧ (fn.name == "runtime.NumGoroutine") = false ∧ fn.body.isNone = false
 ok : ∀ f s, κ f = some s → ValidC P f s
theorem enter_gen {s : CSumm} {h : HpF} {args : List SV} {nx nx' : Nat} {r : SV}
  {ups : List (Nat × Option Chunk)} {rs : List Nat} (hm : mrun h (callS s args nx) = some (r, ups, nx', rs)) :
  ∃ (args' : List SV) (H : HpL) (v : SV) (u : List (Nat × Option Chunk)) (back : Nat → Nat), crun (s args' H) = some (v, u) ∧ Canon H ∧ args'.length = args.length ∧ r = renS back v ∧
   ∀ {ω : Nat → Value} {w : World} {Im : Nat → Prop} {θ : Th} (_ : HRel P ω w Im θ h) {us : List Value} (_ : LRel P ω w Im θ args us) (_ : ∀ x, nx ≤ x → x < nx' → θ x = none ∧ h x = none),
   ∃ θL : Th, LRel P ω w Im θL args' us ∧ HRel P ω w Im θL H.get ∧ (∀ x, H.length ≤ x → θL x = none) ∧
   (∀ y c b N, H.get y = some c → θL y = some (b, N) → ∃ x c0, h x = some c0 ∧ θ x = some (b, N)) ∧
   ∀ (z : Value) (w' : World) (θL' : Th) (Im' : Nat → Prop), Ext (fun x => H.length ≤ x) H.get w Im θL (updF u H.get) w' Im' θL' → VRel P ω w' Im' θL' v z → HRel P ω w' Im' θL' (updF u H.get) →
    ∃ θ', Ext (fun x => nx ≤ x ∧ x < nx') h w Im θ (updF ups h) w' Im' θ' ∧ VRel P ω w' Im' θ' r z ∧ HRel P ω w' Im' θ' (updF ups h) ∧
     (∀ x c b N, updF ups h x = some c → θ' x = some (b, N) → (∃ y c0, updF u H.get y = some c0 ∧ θL' y = some (b, N)) ∨ ∃ c0, h x = some c0 ∧ θ x = some (b, N)) ∧
     ∀ (v' : SV) (z' : Value), (∀ x ∈ namesS v', x ∈ namesS v) → VRel P ω w' Im' θL' v' z' → VRel P ω w' Im' θ' (renS back v') z' := by
 unfold callS at hm
 dsimp only at hm
 obtain ⟨acc, rs1, rs2, hcl, hclosed, hargs, -, -, hm2, -⟩ := closeM_spec _ _ _ _ hm ⟨(fun p hp => by cases hp), List.nodup_nil⟩ (fun p hp => by cases hp)
 generalize hL : acc.reverse = L at hm2
 have hLmem : ∀ p, p ∈ L ↔ p ∈ acc := fun p => by rw [← hL]; simp
 have hat : ∀ p ∈ L, h p.1 = some p.2 := fun p hp => hcl.at_ p ((hLmem p).1 hp)
 have hnd : (L.map (·.1)).Nodup := by rw [← hL, List.map_reverse]; exact (List.reverse_perm _).nodup_iff.2 hcl.nodup
 have hns : ∀ x, x ∈ L.map (·.1) ↔ x ∈ acc.map (·.1) := fun x => by rw [← hL]; simp
 generalize hnsd : L.map (·.1) = ns at hm2 hnd hns
 have hlen : ns.length = L.length := by rw [← hnsd]; simp
 obtain ⟨v, u, hrun, rfl, rfl, rfl⟩ := ofCTree_run _ hm2
 -- the callee's names
 have hnsat : ∀ (i x : Nat), ns[i]? = some x → ∃ c : Chunk, L[i]? = some (x, c) ∧ h x = some c := by
  intro i x hx
  rw [← hnsd, List.getElem?_map, Option.map_eq_some_iff] at hx
  obtain ⟨p, hp, rfl⟩ := hx
  exact ⟨p.2, hp, hat p (List.mem_of_getElem? hp)⟩
 have hchn : ∀ p ∈ L, ∀ x ∈ namesC p.2, x ∈ ns := fun p hp x hx => (hns x).2 (hclosed p ((hLmem p).1 hp) x hx)
 generalize hH : locHeap (idxN ns) L 0 = H at hrun
 have hHget : ∀ y, HpL.get H y = (L[y]?).map fun p => renC (idxN ns) p.2 := by
  intro y
  have := locHeap_get (idxN ns) L 0 y
  rw [Nat.zero_add, hH] at this
  exact this
 have hHlen : H.length = ns.length := by rw [← hH, locHeap_len, hlen]
 have hCanon : Canon H := by
  intro i p hp
  rw [← hH, locHeap_at] at hp
  obtain ⟨q, _, rfl⟩ := Option.map_eq_some_iff.1 hp
  simp
 have hHsome : ∀ (y : Nat) (c : Chunk), HpL.get H y = some c → ∃ (x : Nat) (c0 : Chunk), ns[y]? = some x ∧ h x = some c0 ∧ c = renC (idxN ns) c0 ∧ (∀ z ∈ namesC c0, z ∈ ns) := by
  intro y c hc
  rw [hHget, Option.map_eq_some_iff] at hc
  obtain ⟨p, hp, rfl⟩ := hc
  refine ⟨p.1, p.2, ?_, hat p (List.mem_of_getElem? hp), rfl, hchn p (List.mem_of_getElem? hp)⟩
  rw [← hnsd, List.getElem?_map, hp]; rfl
 refine ⟨_, H, v, u, backName ns ns.length nx, hrun, hCanon, by rw [renL_eq]; simp, rfl, ?_⟩
 intro ω w Im θ hr us hl hfr
 let θL : Th := fun i => match ns[i]? with
  | some x => θ x
  | none => none
 have hθL : ∀ (i x : Nat), ns[i]? = some x → θL i = θ x := fun i x hx => by simp [θL, hx]
 have hθL' : ∀ i : Nat, ns.length ≤ i → θL i = none := fun i hi => by simp [θL, List.getElem?_eq_none hi]
 have hto : ∀ x ∈ ns, ∀ p, θ x = some p → θL (idxN ns x) = some p := by
  intro x hx p hp
  rw [hθL _ x (idxN_spec ns x hx).2, hp]
 have hArgs : LRel P ω w Im θL (renL (idxN ns) args) us := hl.ren _ (fun x hx p hp => hto x ((hns x).2 (hargs x hx)) p hp)
 have hHr : HRel P ω w Im θL H.get := by
  refine ⟨?_, ?_, ?_, hr.im⟩
  · intro y c hc
    obtain ⟨x, c0, hx, hx0, rfl, hn⟩ := hHsome y c hc
    exact (hr.at_ x c0 hx0).ren _ (fun z hz p hp => hto z (hn z hz) p hp) (hθL y x hx)
  · intro y z c c' b N N' hy hz hb hb'
    obtain ⟨x, c0, hx, hx0, -, -⟩ := hHsome y c hy
    obtain ⟨x', c0', hx', hx0', -, -⟩ := hHsome z c' hz
    rw [hθL y x hx] at hb
    rw [hθL z x' hx'] at hb'
    have := hr.inj x x' c0 c0' b N N' hx0 hx0' hb hb'
    subst this
    rw [← idxN_at hnd hx, ← idxN_at hnd hx']
  · intro y c b N hy hb
    obtain ⟨x, c0, hx, hx0, -, -⟩ := hHsome y c hy
    rw [hθL y x hx] at hb
    exact hr.own x c0 b N hx0 hb
 refine ⟨θL, hArgs, hHr, fun x hx => hθL' x (by omega), fun y c b N hy hb => ?_, fun z w' θL' Im' hE hz hH' => ?_⟩
 · obtain ⟨x, c0, hx, hx0, -, -⟩ := hHsome y c hy
   rw [hθL y x hx] at hb
   exact ⟨x, c0, hx0, hb⟩
 rw [hHlen] at hE
 -- back to the caller's names
 generalize hB : boundN (namesS v ++ namesU u) ns.length = B at hfr ⊢
 have hBge : ns.length ≤ B := by rw [← hB]; exact boundN_ge _ _
 have hBv : ∀ x ∈ namesS v, x < B := fun x hx => by rw [← hB]; exact boundN_mem _ _ x (List.mem_append.2 (.inl hx))
 have hBu : ∀ x ∈ namesU u, x < B := fun x hx => by rw [← hB]; exact boundN_mem _ _ x (List.mem_append.2 (.inr hx))
 generalize hback : backName ns ns.length nx = back
 have hbk1 : ∀ (y x : Nat), ns[y]? = some x → back y = x := by
  intro y x hx
  have hlt : y < ns.length := (List.getElem?_eq_some_iff.1 hx).1
  have : Nat.blt y ns.length = true := by rw [Nat.blt_eq]; exact hlt
  rw [← hback]
  simp [backName, this, List.getD, hx]
 have hbk2 : ∀ y, ns.length ≤ y → back y = nx + (y - ns.length) := by
  intro y hy
  have : Nat.blt y ns.length = false := by
   cases hh : Nat.blt y ns.length with
   | false => rfl
   | true => rw [Nat.blt_eq] at hh; omega
  rw [← hback]
  simp [backName, this]
 have hnslt : ∀ y : Nat, y < ns.length → ∃ x, ns[y]? = some x := fun y hy => ⟨ns[y], by simp [hy]⟩
 have hold : ∀ (y x : Nat), ns[y]? = some x → ¬ (nx ≤ x ∧ x < nx + (B - ns.length)) := by
  intro y x hx hh
  obtain ⟨c, -, hc⟩ := hnsat y x hx
  rw [(hfr x hh.1 hh.2).2] at hc
  cases hc
 have hinj : ∀ x y, x < B → y < B → back x = back y → x = y := by
  intro x y hx hy e
  rcases Nat.lt_or_ge x ns.length with h1 | h1
  · obtain ⟨a, ha⟩ := hnslt x h1
    rcases Nat.lt_or_ge y ns.length with h2 | h2
    · obtain ⟨b, hb⟩ := hnslt y h2
      rw [hbk1 x a ha, hbk1 y b hb] at e
      subst e
      rw [← idxN_at hnd ha, ← idxN_at hnd hb]
    · rw [hbk1 x a ha, hbk2 y h2] at e
      exact absurd ⟨by omega, by omega⟩ (hold x a ha)
  · rcases Nat.lt_or_ge y ns.length with h2 | h2
    · obtain ⟨b, hb⟩ := hnslt y h2
      rw [hbk2 x h1, hbk1 y b hb] at e
      exact absurd ⟨by omega, by omega⟩ (hold y b hb)
    · rw [hbk2 x h1, hbk2 y h2] at e
      omega
 let θ' : Th := fun x => if nx ≤ x ∧ x < nx + (B - ns.length) then θL' (x - nx + ns.length) else θ x
 have hθ' : ∀ y, y < B → θ' (back y) = θL' y := by
  intro y hy
  rcases Nat.lt_or_ge y ns.length with h1 | h1
  · obtain ⟨x, hx⟩ := hnslt y h1
    rw [hbk1 y x hx]
    simp only [θ', if_neg (hold y x hx)]
    rw [hE.thOld y (by omega), hθL y x hx]
  · rw [hbk2 y h1]
    have : nx ≤ nx + (y - ns.length) ∧ nx + (y - ns.length) < nx + (B - ns.length) := by omega
    simp only [θ', if_pos this]
    congr 1
    omega
 have hθo : ∀ x, ¬ (nx ≤ x ∧ x < nx + (B - ns.length)) → θ' x = θ x := fun x hx => by simp only [θ', if_neg hx]
 have hup : ∀ x p, θ x = some p → θ' x = some p := by
  intro x p hp
  by_cases hx : nx ≤ x ∧ x < nx + (B - ns.length)
  · rw [(hfr x hx.1 hx.2).1] at hp; cases hp
  · rw [hθo x hx]; exact hp
 have hkeysB : ∀ p ∈ u, p.1 < B := fun p hp => hBu _ (namesU_key hp)
 -- what the caller's heap holds behind the call
 have hnew : ∀ x c, updF (backUps back u) h x = some c →
   (∃ y c0, y < B ∧ back y = x ∧ updF u (HpL.get H) y = some c0 ∧ c = renC back c0 ∧ (∀ z ∈ namesC c0, z < B)) ∨ (x ∉ ns ∧ h x = some c ∧ ¬ (nx ≤ x ∧ x < nx + (B - ns.length))) := by
  intro x c hx
  by_cases hkey : x ∈ (backUps back u).map (·.1)
  · rw [backUps_keys] at hkey
    obtain ⟨p, hp, rfl⟩ := List.mem_map.1 hkey
    have hyk : p.1 ∈ u.map (·.1) := List.mem_map.2 ⟨p, hp, rfl⟩
    rw [updF_back hinj u (HpL.get H) h p.1 hkeysB hyk, Option.map_eq_some_iff] at hx
    obtain ⟨c0, hc0, rfl⟩ := hx
    refine .inl ⟨p.1, c0, hkeysB p hp, rfl, hc0, rfl, ?_⟩
    rcases updF_mem hc0 with h1 | ⟨h1, _⟩
    · exact fun z hz => hBu z (namesU_chunk h1 z hz)
    · exact absurd hyk h1
  · rw [updF_not hkey] at hx
    by_cases hxn : x ∈ ns
    · obtain ⟨hi1, hi2⟩ := idxN_spec ns x hxn
      obtain ⟨c1, hL1, hc1⟩ := hnsat _ x hi2
      rw [hx] at hc1
      simp only [Option.some.injEq] at hc1
      subst hc1
      have hny : idxN ns x ∉ u.map (·.1) := by
       intro hh
       obtain ⟨p, hp, he⟩ := List.mem_map.1 hh
       apply hkey
       rw [backUps_keys]
       exact List.mem_map.2 ⟨p, hp, by simp only [he]; exact hbk1 _ x hi2⟩
      have hcn := hchn (x, c) (List.mem_of_getElem? hL1)
      refine .inl ⟨idxN ns x, renC (idxN ns) c, by omega, hbk1 _ x hi2, ?_, ?_, ?_⟩
      · rw [updF_not hny, hHget, hL1]; rfl
      · rw [renC_id]
        intro z hz
        exact hbk1 _ z (idxN_spec ns z (hcn z hz)).2
      · intro z hz
        cases c with
        | mpb kd kvs => cases hz
        | seq e es => cases hz
        | mpc ks vs =>
         simp only [renC, namesC, List.mem_append] at hz
         rcases hz with hz | hz
         · obtain ⟨y, hy, rfl⟩ := namesL_ren (idxN ns) z ks hz
           have := (idxN_spec ns y (hcn y (List.mem_append.2 (.inl hy)))).1
           omega
         · obtain ⟨y, hy, rfl⟩ := namesL_ren (idxN ns) z vs hz
           have := (idxN_spec ns y (hcn y (List.mem_append.2 (.inr hy)))).1
           omega
        | loopr st vs ps asg bdy =>
         simp only [renC, namesC] at hz
         have := namesL_ren (idxN ns) z vs hz
         obtain ⟨y, hy, rfl⟩ := this
         have := (idxN_spec ns y (hcn y hy)).1
         omega
        | cells T vs =>
         simp only [renC, namesC] at hz
         have := namesL_ren (idxN ns) z vs hz
         obtain ⟨y, hy, rfl⟩ := this
         have := (idxN_spec ns y (hcn y hy)).1
         omega
    · refine .inr ⟨hxn, hx, fun hh => ?_⟩
      rw [(hfr x hh.1 hh.2).2] at hx
      cases hx
 refine ⟨θ', ?_, ?_, ?_, ?_, ?_⟩
 · refine ⟨hθo, hup, hE.imUp, hE.size, ?_, ?_, ?_, hE.os, hE.output, hE.tape⟩
   · intro b hb hno
     refine hE.keep b hb (fun y c N hy => ?_)
     obtain ⟨x, c0, hx, hx0, -, -⟩ := hHsome y c hy
     rw [hθL y x hx]
     exact hno x c0 N hx0
   · intro b hb
     rcases hE.imNew b hb with h1 | ⟨y, c, N, hy, hθy⟩ | h1
     · exact .inl h1
     · obtain ⟨x, c0, hx, hx0, -, -⟩ := hHsome y c hy
       rw [hθL y x hx] at hθy
       exact .inr (.inl ⟨x, c0, N, hx0, hθy⟩)
     · exact .inr (.inr h1)
   · intro x c b N hx hb
     rcases hnew x c hx with ⟨y, c0, hyB, rfl, hy0, -, -⟩ | ⟨-, hx0, hxo⟩
     · rw [hθ' y hyB] at hb
       rcases hE.ownNew y c0 b N hy0 hb with ⟨y', c', N', hy', hθy'⟩ | h1
       · obtain ⟨x', c0', hx', hx0', -, -⟩ := hHsome y' c' hy'
         rw [hθL y' x' hx'] at hθy'
         exact .inl ⟨x', c0', N', hx0', hθy'⟩
       · exact .inr h1
     · rw [hθo x hxo] at hb
       exact .inl ⟨x, c, N, hx0, hb⟩
 · exact hz.ren back (fun x hx p hp => by rw [hθ' x (hBv x hx)]; exact hp)
 · have hkeepO : ∀ x c, x ∉ ns → h x = some c → ∀ b N, θ x = some (b, N) → w'.heap[b]? = w.heap[b]? := by
     intro x c hxn hx b N hb
     refine hE.keep b (hr.own x c b N hx hb).2 (fun y c' N' hy hθy => ?_)
     obtain ⟨x', c0', hx', hx0', -, -⟩ := hHsome y c' hy
     rw [hθL y x' hx'] at hθy
     have := hr.inj x x' c c0' b N N' hx hx0' hb hθy
     subst this
     exact hxn (List.mem_of_getElem? hx')
   have hI : ∀ b, Im b → Im' b ∧ w'.heap[b]? = w.heap[b]? := fun b hb => ⟨hE.imUp b hb, hE.keep b (hr.im b hb) (fun y c N hy hθy => by
    obtain ⟨x, c0, hx, hx0, -, -⟩ := hHsome y c hy
    rw [hθL y x hx] at hθy
    exact (hr.own x c0 b N hx0 hθy).1 hb)⟩
   have hownL : ∀ y c0 b N, updF u (HpL.get H) y = some c0 → θL' y = some (b, N) → (∃ x c1 N1, x ∈ ns ∧ h x = some c1 ∧ θ x = some (b, N1)) ∨ w.heap.size ≤ b := by
    intro y c0 b N hy hb
    rcases hE.ownNew y c0 b N hy hb with ⟨y', c', N', hy', hθy'⟩ | h1
    · obtain ⟨x', c0', hx', hx0', -, -⟩ := hHsome y' c' hy'
      rw [hθL y' x' hx'] at hθy'
      exact .inl ⟨x', c0', N', List.mem_of_getElem? hx', hx0', hθy'⟩
    · exact .inr h1
   have hcross : ∀ y c0 b N x c N', updF u (HpL.get H) y = some c0 → θL' y = some (b, N) → x ∉ ns → h x = some c → θ x = some (b, N') → False := by
    intro y c0 b N x c N' hy hb hxn hx hbx
    rcases hownL y c0 b N hy hb with ⟨x1, c1, N1, hx1, hx1h, hb1⟩ | h1
    · have := hr.inj x x1 c c1 b N' N1 hx hx1h hbx hb1
      subst this
      exact hxn hx1
    · have := (hr.own x c b N' hx hbx).2
      omega
   refine ⟨?_, ?_, ?_, hH'.im⟩
   · intro x c hx
     rcases hnew x c hx with ⟨y, c0, hyB, rfl, hy0, rfl, hzB⟩ | ⟨hxn, hx0, hxo⟩
     · exact (hH'.at_ y c0 hy0).ren back (fun z hz p hp => by rw [hθ' z (hzB z hz)]; exact hp) (hθ' y hyB)
     · exact (hr.at_ x c hx0).mono hI hup (hθo x hxo) (hkeepO x c hxn hx0)
   · intro x x' c c' b N N' hx hx' hb hb'
     rcases hnew x c hx with ⟨y, c0, hyB, rfl, hy0, -, -⟩ | ⟨hxn, hx0, hxo⟩
     · rw [hθ' y hyB] at hb
       rcases hnew x' c' hx' with ⟨y', c0', hyB', rfl, hy0', -, -⟩ | ⟨hxn', hx0', hxo'⟩
       · rw [hθ' y' hyB'] at hb'
         rw [hH'.inj y y' c0 c0' b N N' hy0 hy0' hb hb']
       · rw [hθo x' hxo'] at hb'
         exact (hcross y c0 b N x' c' N' hy0 hb hxn' hx0' hb').elim
     · rw [hθo x hxo] at hb
       rcases hnew x' c' hx' with ⟨y', c0', hyB', rfl, hy0', -, -⟩ | ⟨hxn', hx0', hxo'⟩
       · rw [hθ' y' hyB'] at hb'
         exact (hcross y' c0' b N' x c N hy0' hb' hxn hx0 hb).elim
       · rw [hθo x' hxo'] at hb'
         exact hr.inj x x' c c' b N N' hx0 hx0' hb hb'
   · intro x c b N hx hb
     rcases hnew x c hx with ⟨y, c0, hyB, rfl, hy0, -, -⟩ | ⟨hxn, hx0, hxo⟩
     · rw [hθ' y hyB] at hb
       exact hH'.own y c0 b N hy0 hb
     · rw [hθo x hxo] at hb
       have ho := hr.own x c b N hx0 hb
       refine ⟨fun hi => ?_, Nat.lt_of_lt_of_le ho.2 hE.size⟩
       rcases hE.imNew b hi with h1 | ⟨y, c1, N1, hy, hθy⟩ | h1
       · exact ho.1 h1
       · obtain ⟨x', c0', hx', hx0', -, -⟩ := hHsome y c1 hy
         rw [hθL y x' hx'] at hθy
         have := hr.inj x x' c c0' b N N1 hx0 hx0' hb hθy
         subst this
         exact hxn (List.mem_of_getElem? hx')
       · omega
 · intro x c b N hx hb
   rcases hnew x c hx with ⟨y, c0, hyB, rfl, hy0, -, -⟩ | ⟨-, hx0, hxo⟩
   · rw [hθ' y hyB] at hb
     exact .inl ⟨y, c0, hy0, hb⟩
   · rw [hθo x hxo] at hb
     exact .inr ⟨c, hx0, hb⟩
 · intro v' z' hn hz'
   exact hz'.ren back (fun x hx p hp => by rw [hθ' x (hBv x (hn x hx))]; exact hp)
theorem enter_good {κ : Nat → Option CSumm} (hκ : KOk P κ) {w : World} {Im : Nat → Prop} {θ : Th} {h : HpF} (hr : HRel P ω w Im θ h) {g : FuncId} {args : List SV} {us : List Value} (hl : LRel P ω w Im θ args us) {nx nx' : Nat} {r : SV}
  {ups : List (Nat × Option Chunk)} {rs : List Nat} (hm : mrun h (callM κ g args nx) = some (r, ups, nx', rs)) (hfr : ∀ x, nx ≤ x → x < nx' → θ x = none ∧ h x = none) :
  Calls P g us.toArray w fun e w' => ∃ u Im' θ', e = .returned u ∧ Ext (fun x => nx ≤ x ∧ x < nx') h w Im θ (updF ups h) w' Im' θ' ∧ VRel P ω w' Im' θ' r u ∧ HRel P ω w' Im' θ' (updF ups h) := by
 unfold callM at hm
 cases hk : κ g with
 | none => simp [hk, mrun] at hm
 | some s =>
  simp only [hk] at hm
  obtain ⟨args', H, v, u, back, h1, h2, -, -, hsem⟩ := enter_gen (P := P) hm
  obtain ⟨θL, h3, h4, h5, -, h6⟩ := hsem hr hl hfr
  refine (hκ.ok g s hk _ _ v u h1 h2 ω θL Im w us h3 h4 h5).mono ?_
  rintro e w' ⟨z, θL', Im', rfl, hE, hz, hH'⟩
  obtain ⟨θ', g1, g2, g3, -, -⟩ := h6 z w' θL' Im' hE hz hH'
  exact ⟨z, Im', θ', rfl, g1, g2, g3⟩
theorem findMeth_find (name : String) : ∀ l : List Method, findMeth name l = l.find? (·.name == name)
 | [] => rfl
 | m :: l => by
  simp only [findMeth, List.find?_cons]
  cases h : m.name == name
  · simpa using findMeth_find name l
  · rfl
theorem run_methodS {t : TypeId} {name : String} {g : Nat} (h : methodS P t name = some g) (k : Nat) (u : Value) (w : World) : (method (k + 1) t u name).run P w = .ok (g, u) w := by
 unfold methodS at h
 cases hi : P.info? t with
 | none => simp [hi] at h
 | some i =>
  simp only [hi] at h
  rw [findMeth_find] at h
  split at h
  case h_2 => cases h
  rename_i m hm
  split at h
  case h_2 => cases h
  rename_i f p hp hf
  have hm' : i.methods.find? (·.name == name) = some m := by rw [← Array.find?_toList]; exact hm
  have hpe : m.path = #[] := by apply Array.ext'; simpa using hp
  have hti : (typeInfo t).run P w = .ok i w := by simp [typeInfo, hi]
  split at h
  · rename_i e hu
    cases p with
    | false => cases h
    | true =>
     simp only [cond_true, Option.some.injEq] at h
     subst h
     simp [method, hti, hm', hpe, hf, follow, receiverAt, run_underlying hu, Place.get]
  · rename_i d hni hu
    cases p with
    | true => cases h
    | false =>
     simp only [cond_false, Option.some.injEq] at h
     subst h
     cases d <;> first | exact (hni _ rfl).elim | simp [method, hti, hm', hpe, hf, follow, receiverAt, run_underlying hu, Place.get]
  · cases h
theorem run_invoke {t : TypeId} {name : String} {g : Nat} (h : methodS P t name = some g) {fn : Func} (hfn : P.funcs[g]? = some fn) (hn1 : (fn.name == "runtime.NumGoroutine") = false) (hn2 : fn.body.isNone = false) (u : Value) (args : Array Value) (w : World) :
  (invoke (.fn (.method name) #[]) (#[.iface t u] ++ args)).run P w = .ok (.enter g (#[u] ++ args)) w := by
 have h0 : (#[Value.iface t u] ++ args)[0]? = some (.iface t u) := by simp [Array.getElem?_append]
 have hex : (#[Value.iface t u] ++ args).extract 1 (#[Value.iface t u] ++ args).size = args := by
  apply Array.ext'
  simp [List.take_of_length_le]
 have hmr : (method (P.types.size + 100) t u name).run P w = .ok (g, u) w := run_methodS h (P.types.size + 99) u w
 have hn1' : ¬ fn.name = "runtime.NumGoroutine" := by simpa using hn1
 have hn2' : ¬ fn.body = none := by intro hh; simp [hh] at hn2
 simp only [invoke, h0, hex]
 simp [callMethod, Made.depth, hmr, callFunc, hfn, hn1', hn2']
theorem op_good0 {κ : Nat → Option CSumm} (hκ : KOk P κ) {o : Oper} {a : Act} {w : World} {Im : Nat → Prop} {θ : Th} {h : HpF} {ev : Operand → SV} {nx nx' : Nat} {r : SV} {ups : List (Nat × Option Chunk)} {rs : List Nat}
  (hr : HRel P ω w Im θ h) (hev : ∀ x ∈ o.op.operands, VRel P ω w Im θ (ev x) (a.eval x)) (hfr : ∀ x, nx ≤ x → x < nx' → θ x = none ∧ h x = none)
  (hm : mrun h (opM0 P κ o ev nx) = some (r, ups, nx', rs)) : Good P ω o a w Im θ h r ups nx nx' := by
 by_cases hc : ∃ c, o.op = .call c
 · obtain ⟨c, hc⟩ := hc
   obtain ⟨dst, op, type, pos, after, guard⟩ := o
   simp only at hc
   subst hc
   obtain ⟨callee, cargs, argTypes⟩ := c
   simp only [opM0] at hm
   simp only [Op.operands, Call.operands] at hev
   cases callee with
   | invoke r m =>
    simp only [] at hm hev
    have hf := hev r (by simp)
    split at hm
    case h_2 => simp [mrun] at hm
    rename_i t v he
    split at hm
    case h_2 => simp [mrun] at hm
    rename_i g hmeth
    rw [he] at hf
    generalize hu : a.eval r = u at hf
    cases hf with
    | iface hv =>
     rename_i u'
     have hl : LRel P ω w Im θ (v :: cargs.toList.map ev) (u' :: (cargs.map a.eval).toList) := by
      refine ⟨by simp, fun i x y hx hy => ?_⟩
      cases i with
      | zero => cases hx; cases hy; exact hv
      | succ i =>
       simp only [List.getElem?_cons_succ, List.getElem?_map, Array.getElem?_toList, Option.map_eq_some_iff] at hx
       obtain ⟨c, hc, rfl⟩ := hx
       simp only [List.getElem?_cons_succ, Array.toList_map, List.getElem?_map, Array.getElem?_toList, hc, Option.map_some, Option.some.injEq] at hy
       subst hy
       exact hev c (by simp; exact .inr (Array.mem_of_getElem? hc))
     have hcalls := enter_good hκ hr hl hm hfr
     intro ρ K Q hK
     have hs : ∃ s, κ g = some s := by
      unfold callM at hm
      cases hk : κ g with
      | none => simp [hk, mrun] at hm
      | some s => exact ⟨s, rfl⟩
     obtain ⟨s, hs⟩ := hs
     obtain ⟨fn, hfn, hn1, hn2⟩ := hκ.fn g s hs
     have hrun : (execOp a.eval { dst := dst, op := .call { callee := .invoke r m, args := cargs, argTypes := argTypes }, type := type, pos := pos, after := after, guard := guard }).run P w = .ok (.enter g (u' :: (cargs.map a.eval).toList).toArray) w := by
      have e : (u' :: (cargs.map a.eval).toList).toArray = #[u'] ++ cargs.map a.eval := by
       apply Array.ext'
       simp
      rw [e]
      have hn1' : ¬ fn.name = "runtime.NumGoroutine" := by simpa using hn1
      have hn2' : ¬ fn.body = none := by intro hh; simp [hh] at hn2
      have hi := run_invoke hmeth hfn hn1 hn2 u' (cargs.map a.eval) w
      simp only [execOp, resolve, hu, pure_bind]
      exact hi
     refine ⟨fun f _ => FR_fn ρ f, ?_⟩
     rw [Oper.semAt_eq _ _ _ (fun c hc => by cases hc), hrun, Oper.uponIn_enter]
     refine ⟨FR_depth1 ρ, callsIn_FR (hcalls.mono ?_)⟩
     rintro e w' ⟨u, Im', θ', rfl, hE, hv, hH⟩
     exact hK u w' Im' θ' hE hv hH
   | builtin b =>
    simp only [] at hm
    have hargs : LRel P ω w Im θ (cargs.toList.map ev) (cargs.map a.eval).toList := by
     refine ⟨by simp, fun i v u hv hu => ?_⟩
     simp only [List.getElem?_map, Array.getElem?_toList, Option.map_eq_some_iff] at hv
     obtain ⟨c, hc, rfl⟩ := hv
     simp only [Array.toList_map, List.getElem?_map, Array.getElem?_toList, hc, Option.map_some, Option.some.injEq] at hu
     subst hu
     exact hev c (by simp; exact Array.mem_of_getElem? hc)
    unfold builtinS at hm
    split at hm
    · rename_i t ts x xs htys hxs
      have h1 : argTypes[0]? = some t := by
       have := congrArg (·[0]?) htys
       simpa using this
      rw [hxs] at hargs
      have hlen := hargs.len
      cases hus : (cargs.map a.eval).toList with
      | nil => rw [hus] at hlen; simp at hlen
      | cons u us =>
       rw [hus] at hargs
       have h2 : (cargs.map a.eval)[0]? = some u := by
        have := congrArg (·[0]?) hus
        simpa using this
       obtain ⟨v, hv1, hv2, rfl, rfl⟩ := run_len hm (tys := argTypes) (ty := type) h1 h2 (hargs.at_ 0 x u rfl rfl)
       refine good_value hr ?_ hv2
       simp [execOp, resolve, invoke, builtin, hv1]
    · simp [mrun] at hm
   | value f =>
    simp only [] at hm hev
    have hf := hev f (by simp)
    split at hm
    · rename_i g first caps he
      rw [he] at hf
      generalize hu : a.eval f = u at hf
      cases hf with
      | fn h1 h2 h3 h4 =>
       rename_i us vs
       have hl : LRel P ω w Im θ (first ++ (cargs.toList.map ev ++ caps)) (us.toList ++ ((cargs.map a.eval).toList ++ vs.toList)) := by
        refine LRel.append ⟨by simpa using h1, fun i v u hv hu => h3 i v u hv (by simpa using hu)⟩ (LRel.append ⟨by simp, fun i v u hv hu => ?_⟩ ⟨by simpa using h2, fun i v u hv hu => h4 i v u hv (by simpa using hu)⟩)
        simp only [List.getElem?_map, Array.getElem?_toList, Option.map_eq_some_iff] at hv
        obtain ⟨c, hc, rfl⟩ := hv
        simp only [Array.toList_map, List.getElem?_map, Array.getElem?_toList, hc, Option.map_some, Option.some.injEq] at hu
        subst hu
        exact hev c (by simp; exact .inr (Array.mem_of_getElem? hc))
       have hcalls := enter_good hκ hr hl hm hfr
       intro ρ K Q hK
       have hs : ∃ s, κ g = some s := by
        unfold callM at hm
        cases hk : κ g with
        | none => simp [hk, mrun] at hm
        | some s => exact ⟨s, rfl⟩
       obtain ⟨s, hs⟩ := hs
       obtain ⟨fn, hfn, hn1, hn2⟩ := hκ.fn g s hs
       have hrun : (execOp a.eval { dst := dst, op := .call { callee := .value f, args := cargs, argTypes := argTypes }, type := type, pos := pos, after := after, guard := guard }).run P w = .ok (.enter g (us.toList ++ ((cargs.map a.eval).toList ++ vs.toList)).toArray) w := by
        have e : (us.toList ++ ((cargs.map a.eval).toList ++ vs.toList)).toArray = us ++ cargs.map a.eval ++ vs := by
         apply Array.ext'
         simp
        rw [e]
        have hn1' : ¬ fn.name = "runtime.NumGoroutine" := by simpa using hn1
        have hn2' : ¬ fn.body = none := by intro hh; simp [hh] at hn2
        simp [execOp, resolve, hu, Deferred.ofValue, invoke, callFunc, hfn, hn1', hn2']
       refine ⟨fun f _ => FR_fn ρ f, ?_⟩
       rw [Oper.semAt_eq _ _ _ (fun c hc => by cases hc), hrun, Oper.uponIn_enter]
       refine ⟨FR_depth1 ρ, callsIn_FR (hcalls.mono ?_)⟩
       rintro e w' ⟨u, Im', θ', rfl, hE, hv, hH⟩
       exact hK u w' Im' θ' hE hv hH
    · simp [mrun] at hm
 · exact op_plain (fun c e => hc ⟨c, e⟩) hr hev (fun x h1 h2 => (hfr x h1 h2).1) hm
theorem opM_cases {κ : Nat → Option CSumm} {o : Oper} {ev : Operand → SV} {nx : Nat} : opM P κ o ev nx = chkM nx (opX P o.op (o.op.operands.toList.map ev) nx) [] ∨ opM P κ o ev nx = opM0 P κ o ev nx := by
 unfold opM
 split
 · exact .inl rfl
 · exact .inr rfl
theorem op_good {κ : Nat → Option CSumm} (hκ : KOk P κ) {o : Oper} {a : Act} {w : World} {Im : Nat → Prop} {θ : Th} {h : HpF} {ev : Operand → SV} {nx nx' : Nat} {r : SV} {ups : List (Nat × Option Chunk)} {rs : List Nat}
  (hr : HRel P ω w Im θ h) (hev : ∀ x ∈ o.op.operands, VRel P ω w Im θ (ev x) (a.eval x)) (hfr : ∀ x, nx ≤ x → x < nx' → θ x = none ∧ h x = none)
  (hm : mrun h (opM P κ o ev nx) = some (r, ups, nx', rs)) : Good P ω o a w Im θ h r ups nx nx' := by
 rcases opM_cases (P := P) (κ := κ) (o := o) (ev := ev) (nx := nx) with hc | hc <;> rw [hc] at hm
 · exact opX_good hr hev hfr (chkM_run hm).1
 · exact op_good0 hκ hr hev hfr hm
end Go.Am
