/- The abstract machine: how symbolic values and heaps stand for the model's. -/
import Derived.Test.YtbeolnccdhjjeaaAmCore
namespace Go.Am

abbrev Th := Nat → Option (Nat × Nat)
def noTh : Th := fun _ => none

def om0 : Nat → Value := fun _ => undef

inductive VRel' (P : Program) (w : World) (Im : Nat → Prop) : (Nat → Value) → Th → SV → Value → Prop
  | junk {ω : Nat → Value} {θ : Th} {u : Value} : VRel' P w Im ω θ .junk u
  | opq {ω : Nat → Value} {θ : Th} {n : Nat} : VRel' P w Im ω θ (.opq n) (ω n)
  | bool {ω : Nat → Value} {θ : Th} {b : Bool} : VRel' P w Im ω θ (.bool b) (.bool b)
  | int {ω : Nat → Value} {θ : Th} {k : IntKind} {n : Int} : VRel' P w Im ω θ (.int k n) (.int k n)
  | str {ω : Nat → Value} {θ : Th} {l : List UInt8} {s : ByteArray} : s.data.toList = l → VRel' P w Im ω θ (.str l) (.string s)
  | ptr {ω : Nat → Value} {θ : Th} {x off b N : Nat} : θ x = some (b, N) → VRel' P w Im ω θ (.ptr x off) (.pointer (some ⟨b, off, none⟩))
  | nilp {ω : Nat → Value} {θ : Th} : VRel' P w Im ω θ .nilp (.pointer none)
  | pel {ω : Nat → Value} {θ : Th} {v : SV} {off : Nat} {u : Value} {a base : Nat} : VRel' P w Im om0 noTh v u → Im a →
      (∀ (d : Nat) (c : Value), u.cells[d]? = some c → w.cell? ⟨a, base + d, none⟩ = some c) → VRel' P w Im ω θ (.pel v off) (.pointer (some ⟨a, base + off, none⟩))
  | sl {ω : Nat → Value} {θ : Th} {x sz off len b N cap : Nat} : θ x = some (b, N) → off + cap * sz ≤ N → len ≤ cap →
      VRel' P w Im ω θ (.sl x sz off len) (.slice (some ⟨b, off, none⟩) len cap)
  | slnil {ω : Nat → Value} {θ : Th} {x sz : Nat} : VRel' P w Im ω θ (.sl x sz 0 0) (.slice none 0 0)
  | nils {ω : Nat → Value} {θ : Th} : VRel' P w Im ω θ .nils (.slice none 0 0)
  | psl {ω : Nat → Value} {θ : Th} {e : TypeId} {es : List SV} {p : Option Addr} {n cap : Nat} (us : Nat → Value) : es.length = n → n ≤ cap ∧ (p = none → cap = 0) → (∀ v ∈ es, expand P e v = v) →
      (∀ (i : Nat) (v : SV), es[i]? = some v → VRel' P w Im om0 noTh v (us i)) →
      (n ≠ 0 → ∃ a off, p = some ⟨a, off, none⟩ ∧ Im a ∧ ∀ i < n, (us i).cells.size = P.cellsOf e ∧
        ∀ (d : Nat) (c : Value), (us i).cells[d]? = some c → w.cell? ⟨a, off + i * P.cellsOf e + d, none⟩ = some c) →
      VRel' P w Im ω θ (.psl e es) (.slice p n cap)
  | pnn {ω : Nat → Value} {θ : Th} {e : TypeId} {es : List SV} {a : Addr} {n cap : Nat} : VRel' P w Im ω θ (.psl e es) (.slice (some a) n cap) → VRel' P w Im ω θ (.pnn e es) (.slice (some a) n cap)
  | emp {ω : Nat → Value} {θ : Th} {p : Option Addr} : VRel' P w Im ω θ .emp (.slice p 0 0)
  | qs {ω : Nat → Value} {θ : Th} {x sz l n b N cap : Nat} : θ x = some (b, N) → (l + cap) * sz ≤ N → n ≤ cap → VRel' P w Im ω θ (.qs x sz l n) (.slice (some ⟨b, l * sz, none⟩) n cap)
  | qsnil {ω : Nat → Value} {θ : Th} {x sz l n : Nat} {p : Option Addr} : n = 0 → VRel' P w Im ω θ (.qs x sz l n) (.slice p 0 0)
  | qp {ω : Nat → Value} {θ : Th} {x sz i off b N : Nat} : θ x = some (b, N) → VRel' P w Im ω θ (.qp x sz i off) (.pointer (some ⟨b, i * sz + off, none⟩))
  | mp {ω : Nat → Value} {θ : Th} {x b N : Nat} : θ x = some (b, N) → VRel' P w Im ω θ (.mp x) (.map (some b))
  | nilm {ω : Nat → Value} {θ : Th} : VRel' P w Im ω θ .nilm (.map none)
  | yl {ω : Nat → Value} {θ : Th} {x b N : Nat} : θ x = some (b, N) → VRel' P w Im ω θ (.yl x) (.func (.yield b) #[] #[])
  | fn {ω : Nat → Value} {θ : Th} {f : Fn} {as bs : List SV} {us vs : Array Value} : as.length = us.size → bs.length = vs.size →
      (∀ (i : Nat) (v : SV) (u : Value), as[i]? = some v → us[i]? = some u → VRel' P w Im ω θ v u) → (∀ (i : Nat) (v : SV) (u : Value), bs[i]? = some v → vs[i]? = some u → VRel' P w Im ω θ v u) →
      VRel' P w Im ω θ (.fn f as bs) (.func f us vs)
  | nilf {ω : Nat → Value} {θ : Th} : VRel' P w Im ω θ .nilf .nilFunc
  | iface {ω : Nat → Value} {θ : Th} {t : TypeId} {v : SV} {u : Value} : VRel' P w Im ω θ v u → VRel' P w Im ω θ (.iface t v) (.iface t u)
  | nili {ω : Nat → Value} {θ : Th} : VRel' P w Im ω θ .nili .nilIface
  | agg {ω : Nat → Value} {θ : Th} {cs : List SV} {us : Array Value} : cs.length = us.size → (∀ (i : Nat) (v : SV) (u : Value), cs[i]? = some v → us[i]? = some u → VRel' P w Im ω θ v u) →
      VRel' P w Im ω θ (.agg cs) (.agg us)
  | tup {ω : Nat → Value} {θ : Th} {cs : List SV} {us : Array Value} : cs.length = us.size → (∀ (i : Nat) (v : SV) (u : Value), cs[i]? = some v → us[i]? = some u → VRel' P w Im ω θ v u) →
      VRel' P w Im ω θ (.tup cs) (.tuple us)

abbrev VRel (P : Program) (ω : Nat → Value) (w : World) (Im : Nat → Prop) (θ : Th) (v : SV) (u : Value) : Prop := VRel' P w Im ω θ v u

/-- Lists of values. -/
structure LRel (P : Program) (ω : Nat → Value) (w : World) (Im : Nat → Prop) (θ : Th) (cs : List SV) (us : List Value) : Prop where
  len : cs.length = us.length
  at_ : ∀ (i : Nat) (v : SV) (u : Value), cs[i]? = some v → us[i]? = some u → VRel P ω w Im θ v u

theorem VRel.mono {P : Program} {w w' : World} {Im Im' : Nat → Prop} (hI : ∀ b, Im b → Im' b ∧ w'.heap[b]? = w.heap[b]?) :
    ∀ {ω : Nat → Value} {θ : Th} {v : SV} {u : Value}, VRel P ω w Im θ v u → ∀ {θ' : Th}, (∀ x p, θ x = some p → θ' x = some p) → VRel P ω w' Im' θ' v u := by
  have hcell : ∀ b o, Im b → w'.cell? ⟨b, o, none⟩ = w.cell? ⟨b, o, none⟩ := by
    intro b o hb
    simp only [World.cell?, (hI b hb).2]
  have hn : ∀ x p, noTh x = some p → noTh x = some p := fun _ _ h => h
  intro ω θ v u h
  induction h with
  | junk => intro θ' _; exact .junk
  | opq => intro θ' _; exact .opq
  | pnn _ ih => intro θ' hθ; exact .pnn (ih hθ)
  | emp => intro θ' _; exact .emp
  | qs h1 h2 h3 => intro θ' hθ; exact .qs (hθ _ _ h1) h2 h3
  | qsnil h => intro θ' _; exact .qsnil h
  | qp h => intro θ' hθ; exact .qp (hθ _ _ h)
  | bool => intro θ' _; exact .bool
  | int => intro θ' _; exact .int
  | str h => intro θ' _; exact .str h
  | ptr h => intro θ' hθ; exact .ptr (hθ _ _ h)
  | nilp => intro θ' _; exact .nilp
  | pel h1 h2 h3 ih =>
    intro θ' hθ
    exact .pel (ih hn) (hI _ h2).1 (fun d c hd => by rw [hcell _ _ h2]; exact h3 d c hd)
  | sl h1 h2 h3 => intro θ' hθ; exact .sl (hθ _ _ h1) h2 h3
  | slnil => intro θ' _; exact .slnil
  | nils => intro θ' _; exact .nils
  | psl us h1 h0 h2 h3 h4 ih =>
    intro θ' hθ
    refine .psl us h1 h0 h2 (fun i v hv => ih i v hv hn) (fun hne => ?_)
    obtain ⟨a, off, hp, ha, hc⟩ := h4 hne
    exact ⟨a, off, hp, (hI _ ha).1, fun i hi => ⟨(hc i hi).1, fun d c hd => by rw [hcell _ _ ha]; exact (hc i hi).2 d c hd⟩⟩
  | mp h => intro θ' hθ; exact .mp (hθ _ _ h)
  | nilm => intro θ' _; exact .nilm
  | yl h => intro θ' hθ; exact .yl (hθ _ _ h)
  | fn h1 h2 _ _ ih1 ih2 => intro θ' hθ; exact .fn h1 h2 (fun i v u a b => ih1 i v u a b hθ) (fun i v u a b => ih2 i v u a b hθ)
  | nilf => intro θ' _; exact .nilf
  | iface _ ih => intro θ' hθ; exact .iface (ih hθ)
  | nili => intro θ' _; exact .nili
  | agg h1 _ ih => intro θ' hθ; exact .agg h1 (fun i v u a b => ih i v u a b hθ)
  | tup h1 _ ih => intro θ' hθ; exact .tup h1 (fun i v u a b => ih i v u a b hθ)

theorem VRel'.mono {P : Program} {w w' : World} {Im Im' : Nat → Prop} {ω : Nat → Value} {θ : Th} {v : SV} {u : Value} (h : VRel' P w Im ω θ v u) (hI : ∀ b, Im b → Im' b ∧ w'.heap[b]? = w.heap[b]?) {θ' : Th} (hθ : ∀ x p, θ x = some p → θ' x = some p) : VRel' P w' Im' ω θ' v u := VRel.mono hI h hθ

theorem noOpqL_at : ∀ {vs : List SV}, noOpqL vs = true → ∀ {i : Nat} {v : SV}, vs[i]? = some v → noOpq v = true
  | [], _, i, v, h => by simp at h
  | w :: vs, hn, i, v, h => by
    simp only [noOpqL, Bool.and_eq_true] at hn
    cases i with
    | zero => simp at h; subst h; exact hn.1
    | succ i => exact noOpqL_at hn.2 (by simpa using h)
/-- A value that holds none told by its place alone. -/
theorem VRel.om {P : Program} {ω ω' : Nat → Value} {w : World} {Im : Nat → Prop} {θ : Th} {v : SV} {u : Value} (h : VRel P ω w Im θ v u) (hn : noOpq v = true) : VRel P ω' w Im θ v u := by
  induction h with
  | junk => exact .junk
  | opq => simp [noOpq] at hn
  | pnn h _ => exact .pnn (by cases h with | psl us h1 h0 h2 h3 h4 => exact .psl us h1 h0 h2 h3 h4)
  | emp => exact .emp
  | qs h1 h2 h3 => exact .qs h1 h2 h3
  | qsnil h => exact .qsnil h
  | qp h => exact .qp h
  | bool => exact .bool
  | int => exact .int
  | str h => exact .str h
  | ptr h => exact .ptr h
  | nilp => exact .nilp
  | pel h1 h2 h3 _ => exact .pel h1 h2 h3
  | sl h1 h2 h3 => exact .sl h1 h2 h3
  | slnil => exact .slnil
  | nils => exact .nils
  | psl us h1 h0 h2 h3 h4 _ => exact .psl us h1 h0 h2 h3 h4
  | mp h => exact .mp h
  | nilm => exact .nilm
  | yl h => exact .yl h
  | fn h1 h2 _ _ ih1 ih2 =>
    simp only [noOpq, Bool.and_eq_true] at hn
    exact .fn h1 h2 (fun i v u a b => ih1 i v u a b (noOpqL_at hn.1 a)) (fun i v u a b => ih2 i v u a b (noOpqL_at hn.2 a))
  | nilf => exact .nilf
  | iface _ ih => exact .iface (ih (by simpa [noOpq] using hn))
  | nili => exact .nili
  | agg h1 _ ih => exact .agg h1 (fun i v u a b => ih i v u a b (noOpqL_at (by simpa [noOpq] using hn) a))
  | tup h1 _ ih => exact .tup h1 (fun i v u a b => ih i v u a b (noOpqL_at (by simpa [noOpq] using hn) a))

/-- No cell of the row is marked as one that may not be written. -/
def fine (n : Nat) (fr : Nat × Nat) : Prop := ∀ i, i < n → ¬ (fr.1 ≤ i ∧ i < fr.2)

def codeOf : Ex → Option Code
  | .normal => none
  | .exit id => some (.exit id)
  | .ret => some .ret
def stRel : LS → LoopState → Option Code → Prop
  | .ready, st, pe => st = .ready ∧ pe = none
  | .busy, st, pe => st = .busy ∧ pe = none
  | .done e, st, pe => st = .done ∧ pe = codeOf e ∧ pe ≠ none

def CRel (P : Program) (ω : Nat → Value) (w : World) (Im : Nat → Prop) (θ : Th) (x : Nat) : Chunk → Prop
  | .cells T vs => ∃ (b : Nat) (cs : Array Value) (fr : Nat × Nat), θ x = some (b, vs.length) ∧ w.heap[b]? = some (.cells cs T fr) ∧ fine cs.size fr ∧
      LRel P ω w Im θ vs cs.toList
  | .seq e es => (es = [] ∧ θ x = none) ∨ ∃ (b N : Nat) (cs : Array Value) (T : TypeId) (fr : Nat × Nat) (us : Nat → Value), θ x = some (b, N) ∧ w.heap[b]? = some (.cells cs T fr) ∧ fine cs.size fr ∧
      (cs.size = N ∧ T = e) ∧ es.length * P.cellsOf e ≤ N ∧ (∀ v ∈ es, expand P e v = v) ∧ (∀ (i : Nat) (v : SV), es[i]? = some v → VRel P om0 w Im noTh v (us i) ∧ (us i).cells.size = P.cellsOf e ∧
        ∀ (d : Nat) (c : Value), (us i).cells[d]? = some c → cs[i * P.cellsOf e + d]? = some c)
  | .loopr st vs ps asg bdy => ∃ (b N : Nat) (lp : Loop), θ x = some (b, N) ∧ w.heap[b]? = some (.loop lp) ∧ lp.params = ps ∧ lp.assign = asg ∧ lp.body = bdy ∧ stRel st lp.state lp.pending ∧ LRel P ω w Im θ vs lp.tmps.toList

  | .mpc ks vs => ∃ (b N : Nat) (es : Array MapEntry) (clock : Nat), θ x = some (b, N) ∧ w.heap[b]? = some (.map es clock) ∧ LRel P ω w Im θ ks (es.toList.map (·.key)) ∧ LRel P ω w Im θ vs (es.toList.map (·.val)) ∧ ∀ e ∈ es.toList, e.born < clock

abbrev HpF := Nat → Option Chunk

structure HRel (P : Program) (ω : Nat → Value) (w : World) (Im : Nat → Prop) (θ : Th) (h : HpF) : Prop where
  at_ : ∀ x c, h x = some c → CRel P ω w Im θ x c
  inj : ∀ x y c c' b N N', h x = some c → h y = some c' → θ x = some (b, N) → θ y = some (b, N') → x = y
  own : ∀ x c b N, h x = some c → θ x = some (b, N) → ¬ Im b ∧ b < w.heap.size
  im : ∀ b, Im b → b < w.heap.size

def updF : List (Nat × Option Chunk) → HpF → HpF
  | [], h => h
  | (x, c) :: l, h => updF l (fun y => if y = x then c else h y)

/-- What a step may do to the world: 'new': the names that it may give. -/
structure Ext (new : Nat → Prop) (h : HpF) (w : World) (Im : Nat → Prop) (θ : Th) (h' : HpF) (w' : World) (Im' : Nat → Prop) (θ' : Th) : Prop where
  thOld : ∀ x, ¬ new x → θ' x = θ x
  thUp : ∀ x p, θ x = some p → θ' x = some p
  imUp : ∀ b, Im b → Im' b
  size : w.heap.size ≤ w'.heap.size
  keep : ∀ b, b < w.heap.size → (∀ x c N, h x = some c → θ x ≠ some (b, N)) → w'.heap[b]? = w.heap[b]?
  imNew : ∀ b, Im' b → Im b ∨ (∃ x c N, h x = some c ∧ θ x = some (b, N)) ∨ w.heap.size ≤ b
  ownNew : ∀ x c b N, h' x = some c → θ' x = some (b, N) → (∃ y c' N', h y = some c' ∧ θ y = some (b, N')) ∨ w.heap.size ≤ b
  os : w'.os = w.os
  output : w'.output = w.output
  tape : w'.tape = w.tape

theorem Ext.refl (new : Nat → Prop) {h : HpF} {w : World} {Im : Nat → Prop} {θ : Th} : Ext new h w Im θ h w Im θ where
  thOld _ _ := rfl
  thUp _ _ h := h
  imUp _ h := h
  size := Nat.le_refl _
  keep _ _ _ := rfl
  imNew _ h := .inl h
  ownNew x c _ N h1 h2 := .inl ⟨x, c, N, h1, h2⟩
  os := rfl
  output := rfl
  tape := rfl

theorem Ext.mono {new new' : Nat → Prop} {h h' : HpF} {w w' : World} {Im Im' : Nat → Prop} {θ θ' : Th} (e : Ext new h w Im θ h' w' Im' θ') (hn : ∀ x, new x → new' x) :
    Ext new' h w Im θ h' w' Im' θ' :=
  { e with thOld := fun x hx => e.thOld x (fun hh => hx (hn x hh)) }

theorem Ext.trans {new : Nat → Prop} {h h' h'' : HpF} {w w' w'' : World} {Im Im' Im'' : Nat → Prop} {θ θ' θ'' : Th}
    (e : Ext new h w Im θ h' w' Im' θ') (f : Ext new h' w' Im' θ' h'' w'' Im'' θ'') : Ext new h w Im θ h'' w'' Im'' θ'' where
  thOld x hx := (f.thOld x hx).trans (e.thOld x hx)
  thUp x p hp := f.thUp x p (e.thUp x p hp)
  imUp b hb := f.imUp b (e.imUp b hb)
  size := Nat.le_trans e.size f.size
  keep b hb hno := by
    rw [f.keep b (Nat.lt_of_lt_of_le hb e.size), e.keep b hb hno]
    intro x c N hx hθ
    rcases e.ownNew x c b N hx hθ with ⟨y, c', N', hy, hy'⟩ | hge
    · exact hno y c' N' hy hy'
    · omega
  imNew b hb := by
    rcases f.imNew b hb with h1 | ⟨x, c, N, hx, hθ⟩ | h1
    · exact e.imNew b h1
    · rcases e.ownNew x c b N hx hθ with h2 | h2
      · exact .inr (.inl h2)
      · exact .inr (.inr h2)
    · exact .inr (.inr (Nat.le_trans e.size h1))
  ownNew x c b N hx hθ := by
    rcases f.ownNew x c b N hx hθ with ⟨y, c', N', hy, hy'⟩ | h1
    · exact e.ownNew y c' b N' hy hy'
    · exact .inr (Nat.le_trans e.size h1)
  os := f.os.trans e.os
  output := f.output.trans e.output
  tape := f.tape.trans e.tape

/-- Blocks that are known by content stay as they are. -/
theorem Ext.im_same {P : Program} {ω : Nat → Value} {new : Nat → Prop} {h h' : HpF} {w w' : World} {Im Im' : Nat → Prop} {θ θ' : Th} (e : Ext new h w Im θ h' w' Im' θ')
    (hr : HRel P ω w Im θ h) : ∀ b, Im b → Im' b ∧ w'.heap[b]? = w.heap[b]? := fun b hb =>
  ⟨e.imUp b hb, e.keep b (hr.im b hb) (fun x c N hx hθ => (hr.own x c b N hx hθ).1 hb)⟩

theorem Ext.val {P : Program} {ω : Nat → Value} {new : Nat → Prop} {h h' : HpF} {w w' : World} {Im Im' : Nat → Prop} {θ θ' : Th} (e : Ext new h w Im θ h' w' Im' θ')
    (hr : HRel P ω w Im θ h) {v : SV} {u : Value} (hv : VRel P ω w Im θ v u) : VRel P ω w' Im' θ' v u :=
  hv.mono (e.im_same hr) e.thUp

/-- Running an operation's reckoning. -/
def mrun (h : HpF) : OpM → Option (SV × List (Nat × Option Chunk) × Nat × List Nat)
  | .done r ups nx => some (r, ups, nx, [])
  | .get x f => match h x with
    | some c => match mrun h (f c) with
      | some (r, ups, nx, rs) => some (r, ups, nx, x :: rs)
      | none => none
    | none => none
  | .ite b t e => if b then mrun h t else mrun h e
  | .fail => none

end Go.Am
