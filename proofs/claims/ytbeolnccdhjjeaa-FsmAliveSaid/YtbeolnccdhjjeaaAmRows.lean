/- Rows: data of bools, integers, strings, structs, arrays and slices, opened. -/
import Derived.Test.YtbeolnccdhjjeaaAmPost
import Derived.ProofKit
import Derived.OpenShut
import Derived.Deep.Slices
namespace Go.Am
open Go.ChangeShapes Go.WideShapes
section
variable {P : Program}

/-- Two lists, side by side. -/
inductive All2 {α β : Type} (R : α → β → Prop) : List α → List β → Prop
  | nil : All2 R [] []
  | cons {a : α} {b : β} {l : List α} {m : List β} : R a b → All2 R l m → All2 R (a :: l) (b :: m)
theorem All2.append {α β : Type} {R : α → β → Prop} : ∀ {l : List α} {m : List β} {l' : List α} {m' : List β}, All2 R l m → All2 R l' m' → All2 R (l ++ l') (m ++ m')
  | _, _, _, _, .nil, h => h
  | _, _, _, _, .cons h t, h' => .cons h (t.append h')
theorem All2.len {α β : Type} {R : α → β → Prop} : ∀ {l : List α} {m : List β}, All2 R l m → l.length = m.length
  | _, _, .nil => rfl
  | _, _, .cons _ t => by simp [t.len]
theorem All2.mono {α β : Type} {R S : α → β → Prop} (hRS : ∀ a b, R a b → S a b) : ∀ {l : List α} {m : List β}, All2 R l m → All2 S l m
  | _, _, .nil => .nil
  | _, _, .cons h t => .cons (hRS _ _ h) (t.mono hRS)
theorem All2.cons_inv {α β : Type} {R : α → β → Prop} {a : α} {l : List α} {m : List β} (h : All2 R (a :: l) m) : ∃ b m', m = b :: m' ∧ R a b ∧ All2 R l m' := by
  cases h with | cons h t => exact ⟨_, _, rfl, h, t⟩
theorem All2.nil_inv {α β : Type} {R : α → β → Prop} {m : List β} (h : All2 R ([] : List α) m) : m = [] := by cases h; rfl

/-- Values that are written out as their types ask, their numbers in range. -/
inductive OkV (P : Program) : TypeId → SV → Prop
  | bool {t : TypeId} {b : Bool} : P.underlying t = some .bool → OkV P t (.bool b)
  | int {t : TypeId} {k : IntKind} {n : Int} : P.underlying t = some (.int k) → (Lit.int k n).wf = true → OkV P t (.int k n)
  | str {t : TypeId} {l : List UInt8} : P.underlying t = some .string → l.length ≤ maxLen → OkV P t (.str l)
  | sl {t e : TypeId} {es : List SV} : P.underlying t = some (.slice e) → es.length ≤ maxLen → (∀ v ∈ es, OkV P e v) → OkV P t (.psl e es)
  | agg {t : TypeId} {cs : List SV} : isAggT P t = true → All2 (OkV P) (leaves P 40 t) cs → OkV P t (.agg cs)

def fieldsFlat (P : Program) (rec : TypeId → Bool) : List Field → Nat → Nat → Bool
  | [], o, n => Nat.beq o n
  | f :: fs, o, n => Nat.beq f.offset o && rec f.type && fieldsFlat P rec fs (o + P.cellsOf f.type) n
/-- The type is of data that lie one after another. -/
def flatT (P : Program) : Nat → TypeId → Bool
  | 0, _ => false
  | d + 1, t =>
    match P.underlying t with
    | some .bool => Nat.beq (P.cellsOf t) 1
    | some (.int _) => Nat.beq (P.cellsOf t) 1
    | some .string => Nat.beq (P.cellsOf t) 1
    | some (.slice e) => Nat.beq (P.cellsOf t) 1 && Nat.blt 0 (P.cellsOf e) && flatT P d e
    | some (.struct fs) => fieldsFlat P (flatT P d) fs.toList 0 (P.cellsOf t)
    | some (.array n e) => Nat.beq (n * P.cellsOf e) (P.cellsOf t) && flatT P d e
    | _ => false

theorem ofNat_beq {a b : Nat} (h : Nat.beq a b = true) : a = b := Nat.eq_of_beq_eq_true h

end

section
variable {P : Program} {H : Type} {enc : TypeId × Value → H} {w : World} {base : Nat} {spare : Nat → Bool} {held : Bool}

abbrev Old (w : World) : Nat → Prop := fun b => b < w.heap.size
/-- What a row of cells stands for. -/
def Opens (P : Program) (w : World) (ts : List TypeId) (cs : List Value) : Prop := ∃ ss, All2 (OkV P) ts ss ∧ All2 (fun s c => VRel P om0 w (Old w) noTh s c) ss cs

theorem Opens.append {ts ts' : List TypeId} {cs cs' : List Value} : Opens P w ts cs → Opens P w ts' cs' → Opens P w (ts ++ ts') (cs ++ cs')
  | ⟨ss, h1, h2⟩, ⟨ss', h1', h2'⟩ => ⟨ss ++ ss', h1.append h1', h2.append h2'⟩
theorem Opens.nil : Opens P w [] [] := ⟨[], .nil, .nil⟩
theorem Opens.one {t : TypeId} {s : SV} {c : Value} (h1 : OkV P t s) (h2 : VRel P om0 w (Old w) noTh s c) : Opens P w [t] [c] := ⟨[s], .cons h1 .nil, .cons h2 .nil⟩

theorem all2_lrel {ss : List SV} {cs : List Value} {θ : Th} {Im : Nat → Prop} : All2 (fun s c => VRel P om0 w Im θ s c) ss cs → LRel P om0 w Im θ ss cs := by
  intro h
  induction h with
  | nil => exact ⟨rfl, fun i v u h => by simp at h⟩
  | cons h _ ih =>
    refine ⟨by simp [ih.len], fun i v u hv hu => ?_⟩
    cases i with
    | zero => simp at hv hu; subst hv; subst hu; exact h
    | succ i => exact ih.at_ i v u (by simpa using hv) (by simpa using hu)

/-- The value of a row of cells. -/
def valOf (P : Program) (t : TypeId) (cs : List Value) : Value := if isAggT P t then .agg cs.toArray else match cs with
  | [c] => c
  | _ => .agg cs.toArray

/-- The value that is written out expands to itself. -/
theorem expandFrom_self {P : Program} (v : List SV) : ∀ (ts : List TypeId) (cs : List SV) (j : Nat), (∀ (i : Nat) (u : TypeId) (c : SV), ts[i]? = some u → cs[i]? = some c → expandLeaf P u c = c) → ts.length = cs.length → (∀ i : Nat, v.getD (j + i) .junk = cs.getD i .junk) → expandFrom P (.agg v) ts j = cs
  | [], [], _, _, _, _ => rfl
  | [], _ :: _, _, _, h, _ => by simp at h
  | _ :: _, [], _, _, h, _ => by simp at h
  | u :: us, c :: cs, j, h1, h2, h3 => by
    have e0 := h3 0
    simp only [Nat.add_zero, List.getD_cons_zero] at e0
    have := h1 0 u c (by simp) (by simp)
    simp only [expandFrom, cellAt, e0, this]
    congr 1
    exact expandFrom_self v us cs (j + 1) (fun i u' c' hu hc => h1 (i + 1) u' c' (by simpa using hu) (by simpa using hc)) (by simpa using h2) (fun i => by
      have := h3 (i + 1)
      rw [show j + (i + 1) = j + 1 + i by omega] at this
      simpa using this)
theorem all2_at {α β : Type} {R : α → β → Prop} : ∀ {l : List α} {m : List β}, All2 R l m → ∀ (i : Nat) (a : α) (b : β), l[i]? = some a → m[i]? = some b → R a b
  | _, _, .nil, i, a, b, h, _ => by simp at h
  | _, _, .cons h t, i, a, b, ha, hb => by
    cases i with
    | zero => simp at ha hb; subst ha; subst hb; exact h
    | succ i => exact all2_at t i a b (by simpa using ha) (by simpa using hb)
theorem OkV.leaf {t : TypeId} {v : SV} (h : OkV P t v) (ha : isAggT P t = false) : expandLeaf P t v = v := by
  cases h with
  | bool h => simp [expandLeaf, h, asB]
  | int h _ => simp [expandLeaf, h, asI]
  | str h _ => simp [expandLeaf, h, asS]
  | sl h _ _ => simp [expandLeaf, h, asL]
  | agg h _ => rw [h] at ha; cases ha
theorem isAgg_leaf {t : TypeId} (h : isAggT P t = false) (d : Nat) : leaves P (d + 1) t = [t] := by
  unfold isAggT at h
  unfold leaves
  split at h
  · cases h
  · cases h
  · rename_i h1 h2
    first
    | rfl
    | (split
       · rename_i fs hh; exact absurd hh (h1 fs)
       · rename_i n e hh; exact absurd hh (h2 n e)
       · rfl)
theorem repL_mem {α : Type} {x : α} : ∀ {n : Nat} {l : List α}, x ∈ repL n l → x ∈ l
  | 0, _, h => by simp [repL] at h
  | n + 1, l, h => by
    simp only [repL, List.mem_append] at h
    rcases h with h | h
    · exact h
    · exact repL_mem h
theorem leaves_leaf : ∀ (d : Nat) (t u : TypeId), u ∈ leaves P d t → isAggT P u = false
  | 0, t, u, h => by simp [leaves] at h
  | d + 1, t, u, h => by
    unfold leaves at h
    split at h
    · rw [List.mem_flatMap] at h
      obtain ⟨f, _, hf⟩ := h
      exact leaves_leaf d _ _ hf
    · exact leaves_leaf d _ _ (repL_mem h)
    · rename_i h1 h2
      simp only [List.mem_singleton] at h
      subst h
      unfold isAggT
      split
      · rename_i fs hh; exact absurd hh (h1 fs)
      · rename_i n e hh; exact absurd hh (h2 n e)
      · rfl
theorem OkV.expand {t : TypeId} {v : SV} (h : OkV P t v) : Go.Am.expand P t v = v := by
  cases hb : isAggT P t with
  | false => simp only [Go.Am.expand, hb, cond_false]; exact h.leaf hb
  | true =>
    cases h with
    | bool h => simp [isAggT, h] at hb
    | int h _ => simp [isAggT, h] at hb
    | str h _ => simp [isAggT, h] at hb
    | sl h _ _ => simp [isAggT, h] at hb
    | agg _ h =>
      simp only [Go.Am.expand, hb, cond_true]
      congr 1
      refine expandFrom_self _ _ _ 0 (fun i u c hu hc => ?_) h.len (fun i => by simp)
      exact (all2_at h i u c hu hc).leaf (leaves_leaf 40 t u (List.mem_of_getElem? hu))

theorem opens_val {t : TypeId} {cs : List Value} (h : Opens P w (leaves P 40 t) cs) : ∃ s, OkV P t s ∧ VRel P om0 w (Old w) noTh s (valOf P t cs) := by
  obtain ⟨ss, h1, h2⟩ := h
  cases hb : isAggT P t with
  | true =>
    refine ⟨.agg ss, .agg hb h1, ?_⟩
    simp only [valOf, hb, if_true]
    have hl := all2_lrel h2
    exact .agg (by simp [hl.len]) (fun i v u hv hu => hl.at_ i v u hv (by simpa using hu))
  | false =>
    rw [isAgg_leaf hb 39] at h1
    obtain ⟨s, m, rfl, h3, h4⟩ := h1.cons_inv
    obtain rfl := h4.nil_inv
    obtain ⟨c, m, rfl, h5, h6⟩ := h2.cons_inv
    obtain rfl := h6.nil_inv
    exact ⟨s, h3, by simpa [valOf, hb] using h5⟩

theorem valOf_cells {t : TypeId} {cs : List Value} (h : isAggT P t = true ∨ ∃ c, cs = [c] ∧ c.cells.size = 1) : ((valOf P t cs).cells).toList = cs ∨ isAggT P t = false := by
  cases hb : isAggT P t with
  | true => left; simp [valOf, hb, Value.cells]
  | false => exact .inr rfl

theorem scal_cells {t : TypeId} {s : SV} {c : Value} (h1 : OkV P t s) (h2 : VRel P om0 w (Old w) noTh s c) (hb : isAggT P t = false) : c.cells = #[c] := by
  cases h1 with
  | bool h => cases h2; rfl
  | int h _ => cases h2; rfl
  | str h _ => cases h2; rfl
  | sl h _ _ => cases h2; rfl
  | agg h _ => rw [h] at hb; cases hb
theorem opens_cells {t : TypeId} {cs : List Value} (h : Opens P w (leaves P 40 t) cs) : (valOf P t cs).cells.toList = cs := by
  cases hb : isAggT P t with
  | true => simp [valOf, hb, Value.cells]
  | false =>
    obtain ⟨ss, h1, h2⟩ := h
    rw [isAgg_leaf hb 39] at h1
    obtain ⟨s, m, rfl, h3, h4⟩ := h1.cons_inv
    obtain rfl := h4.nil_inv
    obtain ⟨c, m, rfl, h5, h6⟩ := h2.cons_inv
    obtain rfl := h6.nil_inv
    simp [valOf, hb, scal_cells h3 h5 hb]

theorem opens_flds {rd : TypeId → List Value → Prop} {d k n : Nat} {cs : List Value} (hcs : cs.length = n) (hrd : ∀ t cs, flatT P d t = true → rd t cs → Opens P w (leaves P k t) cs) : ∀ (fs : List Field) (o : Nat), fieldsFlat P (flatT P d) fs o n = true →
    (∀ f ∈ fs, rd f.type ((cs.drop f.offset).take (P.cellsOf f.type))) → o ≤ n → Opens P w (fs.flatMap fun f => leaves P k f.type) (cs.drop o)
  | [], o, h, _, _ => by
    have : o = n := ofNat_beq h
    have : cs.drop o = [] := by rw [List.drop_eq_nil_iff]; omega
    rw [this]
    exact .nil
  | f :: fs, o, h, hx, ho => by
    simp only [fieldsFlat, Bool.and_eq_true] at h
    obtain ⟨⟨h1, h2⟩, h3⟩ := h
    have e1 : f.offset = o := ofNat_beq h1
    have hf := hrd _ _ h2 (hx f (by simp))
    rw [e1] at hf
    have hle : o + P.cellsOf f.type ≤ n := by
      clear hx hf hrd e1 h1 h2
      have key : ∀ (fs : List Field) (o : Nat), fieldsFlat P (flatT P d) fs o n = true → o ≤ n := by
        intro fs
        induction fs with
        | nil => intro o h; exact Nat.le_of_eq (ofNat_beq h)
        | cons g gs ih =>
          intro o h
          simp only [fieldsFlat, Bool.and_eq_true] at h
          have := ih _ h.2
          omega
      exact key fs _ h3
    have := opens_flds hcs hrd fs (o + P.cellsOf f.type) h3 (fun g hg => hx g (by simp [hg])) hle
    have e2 : cs.drop o = (cs.drop o).take (P.cellsOf f.type) ++ cs.drop (o + P.cellsOf f.type) := by
      rw [← List.drop_drop, List.take_append_drop]
    rw [e2, List.flatMap_cons]
    exact hf.append this

theorem opens_elems {t : TypeId} {k m : Nat} {cs : List Value} (hx : ∀ i, i < m → Opens P w (leaves P k t) ((cs.drop (i * P.cellsOf t)).take (P.cellsOf t))) : ∀ j, j ≤ m → cs.length = m * P.cellsOf t → Opens P w (repL j (leaves P k t)) (cs.drop ((m - j) * P.cellsOf t)) := by
  intro j
  induction j with
  | zero =>
    intro _ hl
    have : cs.drop ((m - 0) * P.cellsOf t) = [] := by rw [List.drop_eq_nil_iff]; simp [hl]
    rw [this]
    exact .nil
  | succ j ih =>
    intro hj hl
    have h1 := hx (m - (j + 1)) (by omega)
    have h2 := ih (by omega) hl
    have e2 : cs.drop ((m - (j + 1)) * P.cellsOf t) = (cs.drop ((m - (j + 1)) * P.cellsOf t)).take (P.cellsOf t) ++ cs.drop ((m - j) * P.cellsOf t) := by
      have : (m - j) * P.cellsOf t = (m - (j + 1)) * P.cellsOf t + P.cellsOf t := by
        rw [← Nat.succ_mul]; congr 1; omega
      rw [this, ← List.drop_drop, List.take_append_drop]
    rw [e2]
    exact h1.append h2

theorem addr_add (b o n : Nat) : (⟨b, o, none⟩ : Addr).add n = ⟨b, o + n, none⟩ := by
  unfold Addr.add
  split
  · rename_i h; subst h; rfl
  · rfl
/-- What reads as data is written out. -/
theorem open_flat : ∀ (d : Nat) (t : TypeId), flatT P d t = true → d ≤ 40 → ∀ (k : Nat), d ≤ k → ∀ (n : Nat) (cs : List Value) (x : DataW H × List MemPlace), DataW.trod enc P w base spare held n t cs = some x → Opens P w (leaves P k t) cs := by
  intro d
  induction d with
  | zero => intro t h; simp [flatT] at h
  | succ d ih =>
    intro t h hd k hk n cs x hx
    obtain ⟨k, rfl⟩ : ∃ k', k = k' + 1 := ⟨k - 1, by omega⟩
    cases hu : P.underlying t with
    | none => simp [flatT, hu] at h
    | some q =>
      cases q with
      | bool =>
        obtain ⟨b, rfl, -⟩ := DataW.trod_bool hu hx
        rw [isAgg_leaf (by simp [isAggT, hu])]
        exact .one (.bool hu) .bool
      | int kd =>
        obtain ⟨z, rfl, -, hz⟩ := DataW.trod_int hu hx
        rw [isAgg_leaf (by simp [isAggT, hu])]
        exact .one (.int hu hz) .int
      | string =>
        obtain ⟨s, rfl, -, hz⟩ := DataW.trod_string hu hx
        rw [isAgg_leaf (by simp [isAggT, hu])]
        exact .one (.str hu (by simpa using hz)) (.str rfl)
      | slice e =>
        simp only [flatT, hu, Bool.and_eq_true] at h
        obtain ⟨⟨h1, h2⟩, h3⟩ := h
        have hpos : 0 < P.cellsOf e := by simpa using h2
        rw [isAgg_leaf (by simp [isAggT, hu])]
        rcases Go.Deep.open_slice hu hx with ⟨rfl, -⟩ | ⟨a, len, cap, m, n', D, Pl, rfl, hb, hl, hm, hmm, -, hel⟩
        · exact .one (s := .psl e []) (.sl hu (by simp) (fun v hv => by cases hv)) (.psl (es := []) (fun _ => undef) rfl ⟨Nat.le_refl _, fun _ => rfl⟩ (fun v hv => by cases hv) (fun i v h => by simp at h) (fun hn => absurd rfl hn))
        · have hlm : len ≤ m := by rw [hmm]; split <;> omega
          have key : ∀ i, i < len → ∃ p : SV × List Value, OkV P e p.1 ∧ w.cells? base (a.add (i * P.cellsOf e)) (P.cellsOf e) = some p.2 ∧ VRel P om0 w (Old w) noTh p.1 (valOf P e p.2) ∧ (valOf P e p.2).cells.toList = p.2 := by
            intro i hi
            obtain ⟨cs', c1, c2⟩ := hel i (by omega)
            have ho := ih e h3 (by omega) 40 (by omega) _ _ _ c2
            obtain ⟨s, s1, s2⟩ := opens_val ho
            exact ⟨(s, cs'), s1, c1, s2, opens_cells ho⟩
          obtain ⟨F, hF⟩ := @Go.Deep.choose_lt (SV × List Value) ⟨(.junk, [])⟩ len _ key
          refine .one (s := .psl e ((List.range len).map fun i => (F i).1)) (.sl hu (by simp; omega) (fun v hv => ?_)) ?_
          · simp only [List.mem_map, List.mem_range] at hv
            obtain ⟨i, hi, rfl⟩ := hv
            exact (hF i hi).1
          · refine .psl (fun i => valOf P e (F i).2) (by simp) ⟨hl, fun h => by cases h⟩ (fun v hv => ?_) (fun i v hv => ?_) (fun hn => ?_)
            · simp only [List.mem_map, List.mem_range] at hv
              obtain ⟨i, hi, rfl⟩ := hv
              exact (hF i hi).1.expand
            · simp only [List.getElem?_map, Option.map_eq_some_iff] at hv
              obtain ⟨j, hj, rfl⟩ := hv
              obtain ⟨hi, hij⟩ := List.getElem?_eq_some_iff.1 hj
              simp only [List.length_range] at hi
              simp only [List.getElem_range] at hij
              subst hij
              exact (hF i hi).2.2.1
            · have h0 := hF 0 (by omega)
              obtain ⟨-, hcl, hca⟩ := World.cells?_some h0.2.1
              have hc0 := hca 0 hpos
              have hc1 : ∃ c, (F 0).2[0]? = some c := ⟨(F 0).2[0]'(by omega), by simp⟩
              obtain ⟨c, hc1⟩ := hc1
              rw [hc1] at hc0
              have hsp : a.spot = none ∧ a.block < w.heap.size := by
                simp only [World.cell?, Addr.add, Nat.zero_mul, Nat.add_zero] at hc0
                split at hc0
                · rename_i cc q1 q2 hh
                  constructor
                  · cases hs : a.spot with
                    | none => rfl
                    | some z => simp [hs] at hc0
                  · obtain ⟨hlt, _⟩ := Array.getElem?_eq_some_iff.1 hh
                    exact hlt
                · cases hc0
              obtain ⟨ab, ao, as⟩ := a
              obtain ⟨hs0, hlt⟩ := hsp
              simp only at hs0 hlt
              subst hs0
              refine ⟨ab, ao, rfl, hlt, fun i hi => ?_⟩
              obtain ⟨-, b1, b2⟩ := World.cells?_some (hF i hi).2.1
              have e1 := (hF i hi).2.2.2
              have hsz : (valOf P e (F i).2).cells.size = P.cellsOf e := by
                have := congrArg List.length e1
                simpa [b1] using this
              refine ⟨hsz, fun dd c hdc => ?_⟩
              have hdc' : (F i).2[dd]? = some c := by
                rw [← e1]; simpa using hdc
              have hlt2 : dd < P.cellsOf e := by
                rw [← b1]
                exact (List.getElem?_eq_some_iff.1 hdc').1
              have := b2 dd hlt2
              rw [hdc'] at this
              rw [← this]
              rw [addr_add, addr_add]
      | struct fs =>
        simp only [flatT, hu] at h
        obtain ⟨xs, m, rfl, -, hl, hxl, hat⟩ := DataW.trod_struct hu hx
        have e1 : leaves P (k + 1) t = fs.toList.flatMap fun f => leaves P k f.type := by simp [leaves, hu]
        rw [e1]
        have := opens_flds (w := w) (rd := fun t cs => ∃ y, DataW.trod enc P w base spare held m t cs = some y) hl (fun t cs hf ⟨y, hy⟩ => ih t hf (by omega) k (by omega) m cs y hy) fs.toList 0 h (fun f hf => by
          obtain ⟨i, hi, rfl⟩ := List.mem_iff_getElem.1 hf
          have hi' : i < fs.size := by simpa using hi
          refine ⟨xs[i]'(by omega), ?_⟩
          rw [hat i _ (by simp [hi'])]
          simp) (Nat.zero_le _)
        simpa using this
      | array m e =>
        simp only [flatT, hu, Bool.and_eq_true] at h
        obtain ⟨h1, h2⟩ := h
        have h1 : m * P.cellsOf e = P.cellsOf t := ofNat_beq h1
        obtain ⟨xs, n', rfl, -, hl, hxl, hat⟩ := DataW.trod_array hu hx
        have e1 : leaves P (k + 1) t = repL m (leaves P k e) := by simp [leaves, hu]
        rw [e1]
        have := opens_elems (P := P) (w := w) (t := e) (k := k) (m := m) (cs := cs) (fun i hi => ih e h2 (by omega) k (by omega) n' _ (xs[i]'(by omega)) (by rw [hat i hi]; simp)) m (Nat.le_refl _) (by rw [hl, h1])
        simpa using this
      | _ => simp [flatT, hu] at h

/-- An argument, opened. -/
theorem open_data {r : Reach} {b0 : Nat} {t : TypeId} {v : Value} {dt : DataW H} {p : List MemPlace} (hf : flatT P 40 t = true) (hv : Value.okWide P w r b0 t v) (h : DataW.Trod enc P w base spare held t v dt p) : ∃ s, OkV P t s ∧ VRel P om0 w (Old w) noTh s v := by
  obtain ⟨n, hn⟩ := h
  have ho := open_flat 40 t hf (Nat.le_refl _) 40 (Nat.le_refl _) n _ _ hn
  obtain ⟨s, h1, h2⟩ := opens_val ho
  refine ⟨s, h1, ?_⟩
  have e : valOf P t v.cells.toList = v := by
    cases hb : isAggT P t with
    | true =>
      have : ∃ cs, v = .agg cs := by
        unfold isAggT at hb
        unfold Value.okWide at hv
        split at hb
        · rename_i hu; rw [hu] at hv; exact ⟨hv.choose, hv.choose_spec.1⟩
        · rename_i hu; rw [hu] at hv; exact ⟨hv.choose, hv.choose_spec.1⟩
        · cases hb
      obtain ⟨cs, rfl⟩ := this
      simp [valOf, hb, Value.cells]
    | false =>
      obtain ⟨ss, g1, g2⟩ := ho
      rw [isAgg_leaf hb 39] at g1
      obtain ⟨s, m, rfl, h3, h4⟩ := g1.cons_inv
      obtain rfl := h4.nil_inv
      obtain ⟨c, m, hc, h5, h6⟩ := g2.cons_inv
      obtain rfl := h6.nil_inv
      have hcc := scal_cells h3 h5 hb
      rw [hc]
      simp only [valOf, hb]
      show c = v
      cases v with
      | agg cs =>
        have : cs.toList = [c] := hc
        exfalso
        -- a value of a type of one cell is no row
        unfold isAggT at hb
        unfold Value.okWide at hv
        split at hb
        · cases hb
        · cases hb
        · rename_i u1 u2
          have hv' : Cell.okWide P w r b0 t (.agg cs) := by
            revert hv
            cases hu : P.underlying t with
            | none => exact id
            | some q => cases q <;> first | exact id | exact absurd hu (u1 _) | exact absurd hu (u2 _ _)
          cases h3 with
          | bool hu => simp [Cell.okWide, Cell.ok, hu] at hv'
          | int hu _ => simp [Cell.okWide, Cell.ok, hu] at hv'
          | str hu _ => simp [Cell.okWide, Cell.ok, hu] at hv'
          | sl hu _ _ => simp [Cell.okWide, Cell.ok, hu] at hv'
          | agg hu _ => simp [isAggT] at hu
      | _ => simp [Value.cells] at hc; exact hc.symm
  rw [e] at h2
  exact h2
end
end Go.Am
namespace Go.Am
section
variable {P : Program}
theorem OkV.int_inv {t : TypeId} {v : SV} {k : IntKind} (h : OkV P t v) (hu : P.underlying t = some (.int k)) : ∃ n, v = .int k n ∧ (Lit.int k n).wf = true := by
  cases h with
  | bool h => rw [hu] at h; cases h
  | int h w => rw [hu] at h; cases h; exact ⟨_, rfl, w⟩
  | str h _ => rw [hu] at h; cases h
  | sl h _ _ => rw [hu] at h; cases h
  | agg h _ => simp [isAggT, hu] at h
theorem OkV.bool_inv {t : TypeId} {v : SV} (h : OkV P t v) (hu : P.underlying t = some .bool) : ∃ b, v = .bool b := by
  cases h with
  | bool h => exact ⟨_, rfl⟩
  | int h w => rw [hu] at h; cases h
  | str h _ => rw [hu] at h; cases h
  | sl h _ _ => rw [hu] at h; cases h
  | agg h _ => simp [isAggT, hu] at h
theorem OkV.str_inv {t : TypeId} {v : SV} (h : OkV P t v) (hu : P.underlying t = some .string) : ∃ l, v = .str l ∧ l.length ≤ maxLen := by
  cases h with
  | bool h => rw [hu] at h; cases h
  | int h w => rw [hu] at h; cases h
  | str h w => exact ⟨_, rfl, w⟩
  | sl h _ _ => rw [hu] at h; cases h
  | agg h _ => simp [isAggT, hu] at h
theorem OkV.sl_inv {t e : TypeId} {v : SV} (h : OkV P t v) (hu : P.underlying t = some (.slice e)) : ∃ es, v = .psl e es ∧ es.length ≤ maxLen ∧ ∀ x ∈ es, OkV P e x := by
  cases h with
  | bool h => rw [hu] at h; cases h
  | int h w => rw [hu] at h; cases h
  | str h w => rw [hu] at h; cases h
  | sl h w g => rw [hu] at h; cases h; exact ⟨_, rfl, w, g⟩
  | agg h _ => simp [isAggT, hu] at h
theorem OkV.agg_inv {t : TypeId} {v : SV} (h : OkV P t v) (hu : isAggT P t = true) : ∃ cs, v = .agg cs ∧ All2 (OkV P) (leaves P 40 t) cs := by
  cases h with
  | bool h => simp [isAggT, h] at hu
  | int h w => simp [isAggT, h] at hu
  | str h w => simp [isAggT, h] at hu
  | sl h _ _ => simp [isAggT, h] at hu
  | agg h g => exact ⟨_, rfl, g⟩
end
end Go.Am
