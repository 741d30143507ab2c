/- The abstract machine: lists that are answered or left in the heap, known by content from there on. -/
import Derived.Test.YtpelignoebgkbaaDoorMachine6
import Derived.RecoverIn
set_option linter.unusedVariables false
set_option linter.unusedSimpArgs false
namespace Go.Am
variable {P : Program}
def SemV (P : Program) (k e : Nat) (rs : List SV) (v v' : SV) : Prop :=
 ∀ (ω : Nat → Value) (w : World) (Im : Nat → Prop) (θ : Th) (h : HpF) (u : Value), HRel P ω w Im θ h → h k = some (.seq e rs) → VRel P ω w Im θ v u → VRel P ω w (frozenBy Im θ h [k]) θ v' u
def SemC (P : Program) (k e : Nat) (rs : List SV) (x : Nat) (c c' : Chunk) : Prop :=
 ∀ (ω : Nat → Value) (w : World) (Im : Nat → Prop) (θ : Th) (h : HpF), HRel P ω w Im θ h → h k = some (.seq e rs) → CRel P ω w Im θ x c → CRel P ω w (frozenBy Im θ h [k]) θ x c'
variable {k e : Nat} {rs : List SV}
theorem SemV.qs {sz n : Nat} (hn : n = rs.length) : SemV P k e rs (.qs k sz 0 n) (.psl e rs) := fun ω w Im θ h u hr hk hv => seq_psl hr hk hn hv
theorem SemV.nils {e' : Nat} : SemV P k e rs .nils (.psl e' []) := fun ω w Im θ h u _ _ hv => (nils_psl hv).mono (frozenBy_up w) (fun _ _ h => h)
inductive SemL (P : Program) (k e : Nat) (rs : List SV) : List SV → List SV → Prop
 | nil : SemL P k e rs [] []
 | cons {v v' : SV} {vs vs' : List SV} : SemV P k e rs v v' → SemL P k e rs vs vs' → SemL P k e rs (v :: vs) (v' :: vs')
theorem SemL.len : ∀ {vs vs' : List SV}, SemL P k e rs vs vs' → vs'.length = vs.length
 | _, _, .nil => rfl
 | _, _, .cons _ h => by simp [h.len]
theorem SemL.at_ : ∀ {vs vs' : List SV}, SemL P k e rs vs vs' → ∀ (i : Nat) (v' : SV), vs'[i]? = some v' → ∃ v, vs[i]? = some v ∧ SemV P k e rs v v'
 | _, _, .nil, i, v', h => by simp at h
 | _, _, .cons h1 h2, 0, v', h => by simp at h; subst h; exact ⟨_, rfl, h1⟩
 | _, _, .cons h1 h2, i + 1, v', h => by simp at h; obtain ⟨v, h3, h4⟩ := h2.at_ i v' h; exact ⟨v, by simpa using h3, h4⟩
theorem SemL.rel {vs vs' : List SV} (hs : SemL P k e rs vs vs') {ω : Nat → Value} {w : World} {Im : Nat → Prop} {θ : Th} {h : HpF} (hr : HRel P ω w Im θ h) (hk : h k = some (.seq e rs)) {us : List Value} (hl : LRel P ω w Im θ vs us) : LRel P ω w (frozenBy Im θ h [k]) θ vs' us :=
 ⟨by rw [hs.len]; exact hl.len, fun i v' u hv hu => by
  obtain ⟨v, h1, h2⟩ := hs.at_ i v' hv
  exact h2 ω w Im θ h u hr hk (hl.at_ i v u h1 hu)⟩
theorem SemV.tup {vs vs' : List SV} (hs : SemL P k e rs vs vs') : SemV P k e rs (.tup vs) (.tup vs') := by
 intro ω w Im θ h u hr hk hv
 cases hv with
 | tup h1 h2 =>
  have := hs.rel hr hk ⟨h1, fun i v u a b => h2 i v u a (by simpa using b)⟩
  exact .tup this.len (fun i v u a b => this.at_ i v u a (by simpa using b))
theorem SemV.agg {vs vs' : List SV} (hs : SemL P k e rs vs vs') : SemV P k e rs (.agg vs) (.agg vs') := by
 intro ω w Im θ h u hr hk hv
 cases hv with
 | agg h1 h2 =>
  have := hs.rel hr hk ⟨h1, fun i v u a b => h2 i v u a (by simpa using b)⟩
  exact .agg this.len (fun i v u a b => this.at_ i v u a (by simpa using b))
theorem SemC.cells {x : Nat} {T : TypeId} {vs vs' : List SV} (hs : SemL P k e rs vs vs') : SemC P k e rs x (.cells T vs) (.cells T vs') := by
 rintro ω w Im θ h hr hk ⟨b, cs, fr, h1, h2, h3, h4⟩
 exact ⟨b, cs, fr, by rw [hs.len]; exact h1, h2, h3, hs.rel hr hk h4⟩
def CoV (P : Program) (v v' : SV) : Prop := ∀ (ω : Nat → Value) (w : World) (Im : Nat → Prop) (θ : Th) (u : Value), VRel P ω w Im θ v u → VRel P ω w Im θ v' u
def CoC (P : Program) (x : Nat) (c c' : Chunk) : Prop := ∀ (ω : Nat → Value) (w : World) (Im : Nat → Prop) (θ : Th), CRel P ω w Im θ x c → CRel P ω w Im θ x c'
theorem CoV.nils {e' : Nat} : CoV P .nils (.psl e' []) := fun _ _ _ _ _ h => nils_psl h
inductive CoL (P : Program) : List SV → List SV → Prop
 | nil : CoL P [] []
 | cons {v v' : SV} {vs vs' : List SV} : CoV P v v' → CoL P vs vs' → CoL P (v :: vs) (v' :: vs')
theorem CoL.len : ∀ {vs vs' : List SV}, CoL P vs vs' → vs'.length = vs.length
 | _, _, .nil => rfl
 | _, _, .cons _ h => by simp [h.len]
theorem CoL.at_ : ∀ {vs vs' : List SV}, CoL P vs vs' → ∀ (i : Nat) (v' : SV), vs'[i]? = some v' → ∃ v, vs[i]? = some v ∧ CoV P v v'
 | _, _, .nil, i, v', h => by simp at h
 | _, _, .cons h1 h2, 0, v', h => by simp at h; subst h; exact ⟨_, rfl, h1⟩
 | _, _, .cons h1 h2, i + 1, v', h => by simp at h; obtain ⟨v, h3, h4⟩ := h2.at_ i v' h; exact ⟨v, by simpa using h3, h4⟩
theorem CoL.rel {vs vs' : List SV} (hs : CoL P vs vs') {ω : Nat → Value} {w : World} {Im : Nat → Prop} {θ : Th} {us : List Value} (hl : LRel P ω w Im θ vs us) : LRel P ω w Im θ vs' us :=
 ⟨by rw [hs.len]; exact hl.len, fun i v' u hv hu => by
  obtain ⟨v, h1, h2⟩ := hs.at_ i v' hv
  exact h2 ω w Im θ u (hl.at_ i v u h1 hu)⟩
theorem CoV.tup {vs vs' : List SV} (hs : CoL P vs vs') : CoV P (.tup vs) (.tup vs') := by
 intro ω w Im θ u hv
 cases hv with
 | tup h1 h2 =>
  have := hs.rel (ω := ω) (w := w) (Im := Im) (θ := θ) ⟨h1, fun i v u a b => h2 i v u a (by simpa using b)⟩
  exact .tup this.len (fun i v u a b => this.at_ i v u a (by simpa using b))
theorem CoV.agg {vs vs' : List SV} (hs : CoL P vs vs') : CoV P (.agg vs) (.agg vs') := by
 intro ω w Im θ u hv
 cases hv with
 | agg h1 h2 =>
  have := hs.rel (ω := ω) (w := w) (Im := Im) (θ := θ) ⟨h1, fun i v u a b => h2 i v u a (by simpa using b)⟩
  exact .agg this.len (fun i v u a b => this.at_ i v u a (by simpa using b))
theorem CoC.cells {x : Nat} {T : TypeId} {vs vs' : List SV} (hs : CoL P vs vs') : CoC P x (.cells T vs) (.cells T vs') := by
 rintro ω w Im θ ⟨b, cs, fr, h1, h2, h3, h4⟩
 exact ⟨b, cs, fr, by rw [hs.len]; exact h1, h2, h3, hs.rel h4⟩
def Told (P : Program) (H : HpL) (v : SV) (ups : List (Nat × Option Chunk)) (v' : SV) (ups' : List (Nat × Option Chunk)) : Prop :=
 CoV P v v' ∧ ∀ x c', updF ups' H.get x = some c' → ∃ c, updF ups H.get x = some c ∧ CoC P x c c'
structure From (P : Program) (args : List SV) (H : HpL) (args2 : List SV) (H2 : HpL) : Prop where
 args : CoL P args args2
 canon : Canon H2
 len : H2.length = H.length
 fwd : ∀ x c, H.get x = some c → ∃ c2, H2.get x = some c2 ∧ CoC P x c c2
 bwd : ∀ x c2, H2.get x = some c2 → ∃ c, H.get x = some c
theorem From.ext {args args2 : List SV} {H H2 : HpL} (h : From P args H args2 H2) {w w' : World} {Im Im' : Nat → Prop} {θ θ' : Th} {h' : HpF} (he : Ext (fun x => H2.length ≤ x) H2.get w Im θ h' w' Im' θ') : Ext (fun x => H.length ≤ x) H.get w Im θ h' w' Im' θ' := by
 rw [h.len] at he
 refine { thOld := he.thOld, thUp := he.thUp, imUp := he.imUp, size := he.size, os := he.os, output := he.output, tape := he.tape, keep := fun b hb hno => ?_, imNew := fun b hb => ?_, ownNew := fun x c b N hx hθ => ?_ }
 · refine he.keep b hb (fun x c N hx hθ => ?_)
   obtain ⟨c0, h1⟩ := h.bwd x c hx
   exact hno x c0 N h1 hθ
 · rcases he.imNew b hb with h1 | ⟨x, c, N, h1, h2⟩ | h1
   · exact .inl h1
   · obtain ⟨c0, h3⟩ := h.bwd x c h1
     exact .inr (.inl ⟨x, c0, N, h3, h2⟩)
   · exact .inr (.inr h1)
 · rcases he.ownNew x c b N hx hθ with ⟨y, c', N', h1, h2⟩ | h1
   · obtain ⟨c0, h3⟩ := h.bwd y c' h1
     exact .inl ⟨y, c0, N', h3, h2⟩
   · exact .inr h1
end Go.Am
/- The abstract machine: loops known by what their rounds come to, told by other words. -/
namespace Go.Am
variable {P : Program}
def ToldL (P : Program) (H : HpL) (v : SV) (ups : List (Nat × Option Chunk)) (v' : SV) (ups' : List (Nat × Option Chunk)) : Prop :=
 ∃ (c : Int) (vs vs' : List SV), v = .tup (.int .i64 c :: vs) ∧ v' = .tup (.int .i64 c :: vs') ∧ CoL P vs vs' ∧ ∀ x c', updF ups' H.get x = some c' → ∃ c, updF ups H.get x = some c ∧ CoC P x c c'
end Go.Am
/- The abstract machine: loops known by what their rounds come to, told by other words in several steps. -/
namespace Go.Am
variable {P : Program}
inductive ChainL (P : Program) (H : HpL) : SV → List (Nat × Option Chunk) → SV → List (Nat × Option Chunk) → Prop
 | same {v ups ups'} : (∀ x, updF ups' H.get x = updF ups H.get x) → ChainL P H v ups v ups'
 | ren {v ups v' ups'} : Renamed H v ups v' ups' → ChainL P H v ups v' ups'
 | told {v ups v' ups'} : ToldL P H v ups v' ups' → ChainL P H v ups v' ups'
 | trans {v ups v1 ups1 v' ups'} : ChainL P H v ups v1 ups1 → ChainL P H v1 ups1 v' ups' → ChainL P H v ups v' ups'
end Go.Am
/- The abstract machine: a summary whose runs have each a reason of their own. -/
namespace Go.Am
variable {P : Program}
end Go.Am
/- The abstract machine: nil lists handed in, taken as lists that have grown to nothing (of any element). -/
namespace Go.Am
variable {P : Program}
end Go.Am
/- The abstract machine: code without loops, what it defers told exactly. -/
namespace Go.Am
variable {P : Program} {ω : Nat → Value}
def lineR {R : Type} (fl : R) (P : Program) (κ : Nat → Option CSumm) : Code → St → (Ex → St → R) → R
 | .skip, s, k => k .normal s
 | .region _ ops draw, s, k => bif draw then fl else opsR fl P κ ops.toList (fun s _ => k .normal s) ops.toList 0 s []
 | .seq a b, s, k => lineR fl P κ a s (fun e s => match e with
  | .normal => lineR fl P κ b s k
  | e => k e s)
 | .cond c t e, s, k =>
  match s.ev c with
  | .bool b => bif b then lineR fl P κ t s k else lineR fl P κ e s k
  | _ => fl
 | .block id c, s, k => lineR fl P κ c s (fun e s => match e with
  | .exit j => bif Nat.beq j id then k .normal s else k (.exit j) s
  | e => k e s)
 | .exit id, s, k => k (.exit id) s
 | .ret, s, k => k .ret s
 | _, _, _ => fl
def After0 (P : Program) (ω : Nat → Value) (ρ : Option Nat) (s s2 : St) (a : Act) (w : World) (Im : Nat → Prop) (θ : Th) (K : Act → World → Prop) : Prop :=
 ∀ a' w' Im' θ', Sim P ω ρ s2 a' w' Im' θ' → Ext (fun x => s.nx ≤ x) s.hp.get w Im θ s2.hp.get w' Im' θ' → a'.defers = a.defers → K a' w'
theorem After0.trans {ρ : Option Nat} {s s1 s2 : St} {a a1 : Act} {w w1 : World} {Im Im1 : Nat → Prop} {θ θ1 : Th} {K : Act → World → Prop} (hl : Later s s1)
  (hE : Ext (fun x => s.nx ≤ x) s.hp.get w Im θ s1.hp.get w1 Im1 θ1) (hN : a1.defers = a.defers) (h : After0 P ω ρ s s2 a w Im θ K) : After0 P ω ρ s1 s2 a1 w1 Im1 θ1 K :=
 fun a' w' Im' θ' sim hE' hN' => h a' w' Im' θ' sim (hE.trans (hE'.mono (fun _ hx => Nat.le_trans hl.nx hx))) (hN'.trans hN)
structure Comes0 (P : Program) (c : Code) (s : St) (e : Ex) (s2 : St) : Prop where
 later : Later s s2
 size : s2.size = s.size
 rd : s2.rd = s.rd
 wp : ∀ (ω : Nat → Value) (ρ : Option Nat) (Q : Exit → Act → World → Prop) (a : Act) (w : World) (Im : Nat → Prop) (θ : Th), Sim P ω ρ s a w Im θ → After0 P ω ρ s s2 a w Im θ (Q (exitOf e)) → c.wpIn (FR ρ) 0 P Q a w
theorem comes0_self {c : Code} {s : St} {e : Ex} (h : ∀ (ρ : Option Nat) (Q : Exit → Act → World → Prop) (a : Act) (w : World), Q (exitOf e) a w → c.wpIn (FR ρ) 0 P Q a w) : Comes0 P c s e s :=
 ⟨Later.refl s, rfl, rfl, fun _ ρ Q a w Im θ sim hA => h ρ Q a w (hA a w Im θ sim (Ext.refl _) rfl)⟩
section
variable {R D : Type} {fl : R} {den : R → Option D} (hfl : den fl = none) {κ : Nat → Option CSumm} (hκ : KOk P κ)
include hfl hκ
omit hfl in
theorem txt_comes0 {id : Nat} {ops : Array Oper} {s s' : St} {recs : List Rec} {T' : Nat → SV} (hs' : StOk s') (hl : Later s s') (hz : s'.size = s.size) (hrd : s'.rd = s.rd)
  (ht : Txt P κ ops.toList s.size ops.toList s.tmp s.hp.get s.nx recs T' s'.hp.get s'.nx) (hT : ∀ t, s'.tmp t = .junk ∨ s'.tmp t = T' t) : Comes0 P (.region id ops false) s .normal s' := by
 refine ⟨hl, hz, hrd, fun ω ρ Q a w Im θ sim hA => ?_⟩
 refine wpIn_region ?_
 have hsnd := seq_sound (P := P) hκ (nx0 := s.nx) (ro := ρ) (Q := Q) (ds := a.defers) ht 0 a w Im θ (by simp) rfl sim.sf sim.fr (Nat.le_refl _) (w0 := w) (Im0 := Im) (θ0 := θ) (h0 := s.hp.get) (Ext.refl _) (fun a' w' Im' θ' hdf hS hF hn hE => by
  refine hA a' w' Im' θ' ⟨hs', by rw [hz]; exact hS.weaken hT, hF, ?_⟩ hE hdf
  rw [hrd]
  rcases sim.rd with g | ⟨y, b, N, g1, g2, g3⟩
  · exact .inl g
  · exact .inr ⟨y, b, N, g1, hE.thUp _ _ g2, g3⟩)
 simpa [List.range_eq_range'] using hsnd
theorem lineR_ok : ∀ (c : Code) (s : St) (k : Ex → St → R) (d : D), StOk s → den (lineR fl P κ c s k) = some d → ∃ e s2, StOk s2 ∧ Comes0 P c s e s2 ∧ den (k e s2) = some d := by
 intro c
 induction c with
 | skip => intro s k d hs h; exact ⟨.normal, s, hs, comes0_self (fun ρ Q a w hq => wpIn_skip hq), h⟩
 | region id ops draw =>
  intro s k d hs h
  cases draw with
  | true => exact (fl_no hfl h).elim
  | false =>
   simp only [lineR, cond_false] at h
   obtain ⟨recs, s', ht, hs', hz, hr, hl, h1⟩ := opsR_run hfl _ _ _ _ hs h
   exact ⟨.normal, s', hs', txt_comes0 hκ hs' hl hz hr ht (fun t => .inr rfl), h1⟩
 | seq x y ihx ihy =>
  intro s k d hs h
  simp only [lineR] at h
  obtain ⟨e, s1, hs1, hc1, h1⟩ := ihx s _ d hs h
  cases e with
  | normal =>
   simp only [] at h1
   obtain ⟨e2, s2, hs2, hc2, h2⟩ := ihy s1 k d hs1 h1
   refine ⟨e2, s2, hs2, ⟨hc1.later.trans hc2.later, by rw [hc2.size, hc1.size], by rw [hc2.rd, hc1.rd], fun ω ρ Q a w Im θ sim hA => ?_⟩, h2⟩
   refine wpIn_seq (hc1.wp ω ρ _ a w Im θ sim (fun a' w' Im' θ' sim' hE hN => ?_))
   exact hc2.wp ω ρ Q a' w' Im' θ' sim' (After0.trans hc1.later hE hN hA)
  | exit id =>
   exact ⟨.exit id, s1, hs1, ⟨hc1.later, hc1.size, hc1.rd, fun ω ρ Q a w Im θ sim hA => wpIn_seq (hc1.wp ω ρ _ a w Im θ sim (fun a' w' Im' θ' sim' hE hN => hA a' w' Im' θ' sim' hE hN))⟩, h1⟩
  | ret =>
   exact ⟨.ret, s1, hs1, ⟨hc1.later, hc1.size, hc1.rd, fun ω ρ Q a w Im θ sim hA => wpIn_seq (hc1.wp ω ρ _ a w Im θ sim (fun a' w' Im' θ' sim' hE hN => hA a' w' Im' θ' sim' hE hN))⟩, h1⟩
 | cond c x y ihx ihy =>
  intro s k d hs h
  simp only [lineR] at h
  split at h
  · rename_i b hb
    have hev : ∀ {ω : Nat → Value} {ρ : Option Nat} {a : Act} {w : World} {Im : Nat → Prop} {θ : Th}, Sim P ω ρ s a w Im θ → a.eval c = .bool b := by
     intro ω ρ a w Im θ sim
     have := sim.sf.eval c
     rw [← evT_ev, hb] at this
     generalize a.eval c = u at this
     cases this
     rfl
    cases b with
    | true =>
     obtain ⟨e, s1, hs1, hc1, h1⟩ := ihx s k d hs h
     exact ⟨e, s1, hs1, ⟨hc1.later, hc1.size, hc1.rd, fun ω ρ Q a w Im θ sim hA => wpIn_cond_true (hev sim) (hc1.wp ω ρ Q a w Im θ sim hA)⟩, h1⟩
    | false =>
     obtain ⟨e, s1, hs1, hc1, h1⟩ := ihy s k d hs h
     exact ⟨e, s1, hs1, ⟨hc1.later, hc1.size, hc1.rd, fun ω ρ Q a w Im θ sim hA => wpIn_cond_false (hev sim) (hc1.wp ω ρ Q a w Im θ sim hA)⟩, h1⟩
  · exact (fl_no hfl h).elim
 | block id c ih =>
  intro s k d hs h
  simp only [lineR] at h
  obtain ⟨e, s1, hs1, hc1, h1⟩ := ih s _ d hs h
  cases e with
  | normal => exact ⟨.normal, s1, hs1, ⟨hc1.later, hc1.size, hc1.rd, fun ω ρ Q a w Im θ sim hA => wpIn_block (hc1.wp ω ρ _ a w Im θ sim hA)⟩, h1⟩
  | ret => exact ⟨.ret, s1, hs1, ⟨hc1.later, hc1.size, hc1.rd, fun ω ρ Q a w Im θ sim hA => wpIn_block (hc1.wp ω ρ _ a w Im θ sim hA)⟩, h1⟩
  | exit j =>
   simp only [] at h1
   cases hj : Nat.beq j id with
   | true =>
    rw [hj] at h1
    have hji : j = id := Nat.eq_of_beq_eq_true hj
    subst hji
    refine ⟨.normal, s1, hs1, ⟨hc1.later, hc1.size, hc1.rd, fun ω ρ Q a w Im θ sim hA => wpIn_block (hc1.wp ω ρ _ a w Im θ sim (fun a' w' Im' θ' sim' hE hN => ?_))⟩, h1⟩
    simp only [exitOf, Exit.inBlock, if_true]
    exact hA a' w' Im' θ' sim' hE hN
   | false =>
    rw [hj] at h1
    have hji : ¬ j = id := fun e => by rw [nb_t e] at hj; cases hj
    refine ⟨.exit j, s1, hs1, ⟨hc1.later, hc1.size, hc1.rd, fun ω ρ Q a w Im θ sim hA => wpIn_block (hc1.wp ω ρ _ a w Im θ sim (fun a' w' Im' θ' sim' hE hN => ?_))⟩, h1⟩
    simp only [exitOf, Exit.inBlock, if_neg hji]
    exact hA a' w' Im' θ' sim' hE hN
 | exit id => intro s k d hs h; exact ⟨.exit id, s, hs, comes0_self (fun ρ Q a w hq => wpIn_exit hq), h⟩
 | ret => intro s k d hs h; exact ⟨.ret, s, hs, comes0_self (fun ρ Q a w hq => wpIn_ret hq), h⟩
 | _ => intro s k d hs h; exact (fl_no hfl h).elim
end
end Go.Am
/- The abstract machine: a function that puts off one call of a closure, which asks for what has been raised. -/
namespace Go.Am
variable {P : Program} {ω : Nat → Value}
inductive Out where
 | fin (e : Ex)
 | pan (x : SV)
def Out.gives (P : Program) (ω : Nat → Value) (w : World) (Im : Nat → Prop) (θ : Th) (Q : Exit → Prop) : Out → Prop
 | .fin e => Q (exitOf e)
 | .pan x => ∀ u, VRel P ω w Im θ x u → Q (.panic [{ v := u, recovered := false }])
def AfterX (P : Program) (ω : Nat → Value) (ρ : Option Nat) (s s2 : St) (o : Out) (a : Act) (w : World) (Im : Nat → Prop) (θ : Th) (Q : Exit → Act → World → Prop) : Prop :=
 ∀ a' w' Im' θ', Sim P ω ρ s2 a' w' Im' θ' → Ext (fun x => s.nx ≤ x) s.hp.get w Im θ s2.hp.get w' Im' θ' → a'.defers = a.defers → o.gives P ω w' Im' θ' (fun e => Q e a' w')
structure ComesX (P : Program) (c : Code) (s : St) (o : Out) (s2 : St) : Prop where
 later : Later s s2
 size : s2.size = s.size
 rd : s2.rd = s.rd
 wp : ∀ (ω : Nat → Value) (ρ : Option Nat) (Q : Exit → Act → World → Prop) (a : Act) (w : World) (Im : Nat → Prop) (θ : Th), Sim P ω ρ s a w Im θ → AfterX P ω ρ s s2 o a w Im θ Q → c.wpIn (FR ρ) 0 P Q a w
theorem wanted_none {o : Oper} (h : o.guard = none) (y : Nat → Option Bool) : Region.wanted o y = true := by
 unfold Region.wanted; rw [h]
structure Clo (P : Program) (g : FuncId) (fg : Func) (crest : Code) (v1 v2 : Nat) : Prop where
 fn : P.funcs[g]? = some fg
 nm : (fg.name == "runtime.NumGoroutine") = false
 body : ∃ id p0 p1 c, fg.body = some (.seq (.region id #[p0, p1] false) crest) ∧ p0.op = .call c ∧ c.callee = .builtin .recover ∧ c.args = #[] ∧ p0.guard = none ∧ p0.dst = some v1 ∧ p1.op = .assign (.tmp v1) ∧ p1.guard = none ∧ p1.dst = some v2
 nt : fg.ntmps < 16000
 lt1 : v1 < fg.ntmps
 lt2 : v2 < fg.ntmps
def cloSt (s : St) (n : Nat) (v1 v2 : Nat) (caps : List SV) (x : SV) : St :=
 (({ s with tm := argsTr caps 0 .lf, size := n, rd := none } : St).put (some v1) x).put (some v2) x
theorem clo_calls {g : FuncId} {fg : Func} {crest : Code} {v1 v2 : Nat} (hc : Clo P g fg crest v1 v2) {s sD : St} {caps : List SV} (hcl : caps.length ≤ fg.ntmps) {x : SV} {eD : Ex} (heD : ∀ id, eD ≠ .exit id)
  (hs : StOk s) (hcD : Comes0 P crest (cloSt s fg.ntmps v1 v2 caps x) eD sD) {vsg : List SV} (hres : resultsS P sD fg.results.toList = some vsg)
  {w : World} {Im : Nat → Prop} {θ : Th} (hH : HRel P ω w Im θ s.hp.get) (hF : Fr s.nx θ s.hp.get) {us : List Value} (hcaps : LRel P ω w Im θ caps us) {rv : Value} (hx : VRel P ω w Im θ x rv)
  {u u2 : FrameMode} (hrc : ∀ (c₀ : Frame) (cs : List Frame), c₀.mode = u → recoverD (c₀ :: cs) = some (rv, { c₀ with mode := u2 } :: cs) ∨ (recoverD (c₀ :: cs) = none ∧ rv = .nilIface ∧ u2 = u))
  {R : Ending → FrameMode → World → Prop} (hR : ∀ w' Im' θ', HRel P ω w' Im' θ' sD.hp.get → Fr sD.nx θ' sD.hp.get → Ext (fun x => s.nx ≤ x) s.hp.get w Im θ sD.hp.get w' Im' θ' → ∀ v, R (.returned v) u2 w') :
  CallsDIn (FR none) 0 P g us.toArray u w R := by
 obtain ⟨id, p0, p1, c, hb, h1, h1a, h1b, h2, h3, h4, h5, h6⟩ := hc.body
 refine callsDIn_of_wpSIn hc.fn hb trivial (fun c₀ cs hmode => ?_)
 have hul : us.length = caps.length := hcaps.len.symm
 have sim0 := enter_sim (P := P) (ω := ω) hs (args := caps) (us := us) hcl hc.nt hH hF hcaps
 generalize ha0 : ({ tmps := us.toArray ++ Array.replicate (fg.ntmps - us.toArray.size) undef, defers := [] } : Act) = a0 at sim0 ⊢
 have hd0 : a0.defers = [] := by rw [← ha0]
 have sim1 := put_sim (P := P) sim0 (dst := some v1) hc.lt1 hx
 have hsz1 : (({ s with tm := argsTr caps 0 .lf, size := fg.ntmps, rd := none } : St).put (some v1) x).size = fg.ntmps := put_sz _ _ _
 have sim2 := put_sim (P := P) sim1 (dst := some v2) (show v2 < _ by rw [hsz1]; exact hc.lt2) hx
 have hev : (a0.put (some v1) rv).eval (.tmp v1) = rv := by
  have hsz0 : v1 < a0.tmps.size := by rw [sim0.sf.size]; exact hc.lt1
  simp [Act.put, Act.eval, Array.getD, hsz0]
 have hlay : ∀ cs', (Exit.thenS (crest.wpSIn (FR none) 0 P (bodyPostS P fg c₀ cs R)) (bodyPostS P fg c₀ cs R)) .normal ((a0.put (some v1) rv).put (some v2) rv) cs' w →
   (recoverD (c₀ :: cs) = some (rv, cs') ∨ (recoverD (c₀ :: cs) = none ∧ rv = .nilIface ∧ cs' = c₀ :: cs)) →
   (Code.region id #[p0, p1] false).wpSIn (FR none) 0 P (Exit.thenS (crest.wpSIn (FR none) 0 P (bodyPostS P fg c₀ cs R)) (bodyPostS P fg c₀ cs R)) a0 (c₀ :: cs) w := by
  intro cs' hq hr
  refine wpSIn_region ?_
  show wpOpsSIn (FR none) 0 P #[p0, p1] _ [0, 1] a0 (c₀ :: cs) w
  have e0 : (#[p0, p1] : Array Oper)[0]? = some p0 := rfl
  have e1 : (#[p0, p1] : Array Oper)[1]? = some p1 := rfl
  have r0 : ∀ ρ, (execOp ρ p0).run P w = .ok .recover w := by
   intro ρ
   obtain ⟨dst, op, type, pos, after, guard⟩ := p0
   obtain ⟨callee, cargs, at'⟩ := c
   simp only at h1 h1a h1b
   subst h1; subst h1a; subst h1b
   rfl
  have r1 : ∀ ρ, (execOp ρ p1).run P w = .ok (.value (ρ (.tmp v1))) w := by
   intro ρ
   obtain ⟨dst, op, type, pos, after, guard⟩ := p1
   simp only at h4
   subst h4
   rfl
  have key : ∀ cs2, wpOpsSIn (FR none) 0 P #[p0, p1] (Exit.thenS (crest.wpSIn (FR none) 0 P (bodyPostS P fg c₀ cs R)) (bodyPostS P fg c₀ cs R)) [1] (a0.put p0.dst rv) cs2 w ↔
    wpOpsSIn (FR none) 0 P #[p0, p1] (Exit.thenS (crest.wpSIn (FR none) 0 P (bodyPostS P fg c₀ cs R)) (bodyPostS P fg c₀ cs R)) [] ((a0.put (some v1) rv).put (some v2) rv) cs2 w := by
   intro cs2
   rw [h3]
   simp only [wpOpsSIn, e1, wanted_none h5, if_true, r1, hev, h6]
   exact ⟨fun h => h.2, fun h => ⟨fun f _ => FR_fn none f, h⟩⟩
  have goal0 : wpOpsSIn (FR none) 0 P #[p0, p1] (Exit.thenS (crest.wpSIn (FR none) 0 P (bodyPostS P fg c₀ cs R)) (bodyPostS P fg c₀ cs R)) [1] (a0.put p0.dst rv) cs' w := (key cs').2 hq
  show (∀ f, p0.about P w a0.eval = some f → (FR none).fn f) ∧ _
  refine ⟨fun f _ => FR_fn none f, ?_⟩
  simp only [List.getElem_toArray, List.getElem_cons_zero, wanted_none h2, if_true, r0]
  rcases hr with hr | ⟨hr, hv, hcs⟩
  · simp only [hr]
    exact goal0
  · simp only [hr]
    subst hcs
    rw [← hv]
    exact goal0
 -- what comes behind
 have hrest : ∀ cs', cs' = { c₀ with mode := u2 } :: cs → (Exit.thenS (crest.wpSIn (FR none) 0 P (bodyPostS P fg c₀ cs R)) (bodyPostS P fg c₀ cs R)) .normal ((a0.put (some v1) rv).put (some v2) rv) cs' w := by
  intro cs' hcs'
  show crest.wpSIn (FR none) 0 P (bodyPostS P fg c₀ cs R) _ cs' w
  refine wpSIn_of_wpIn rfl (hcD.wp ω none _ _ w Im θ sim2 (fun aD wD ImD θD simD hE hN => ?_))
  have hd : aD.defers = [] := by rw [hN, put_defers, put_defers, hd0]
  obtain ⟨v, hv, _⟩ := run_results (f := fg) simD.sf hres
  have fin : aD.defers = [] ∧ ∃ u', cs' = { c₀ with mode := u' } :: cs ∧ ∃ v, (results fg aD.tmps).run P wD = .ok v wD ∧ R (.returned v) u' wD :=
   ⟨hd, u2, hcs', v, hv, hR wD ImD θD simD.sf.hp simD.fr (by simp only [cloSt, put_nx, put_hp] at hE; exact hE) v⟩
  cases eD with
  | normal => exact fin
  | ret => exact fin
  | exit id => exact absurd rfl (heD id)
 refine wpSIn_seq ?_
 rcases hrc c₀ cs hmode with hr | ⟨hr, hv, hu⟩
 · exact hlay _ (hrest _ rfl) (.inl hr)
 · refine hlay (c₀ :: cs) (hrest _ ?_) (.inr ⟨hr, hv, rfl⟩)
   rw [hu, ← hmode]
structure Dfr (P : Program) (fn : Func) (c0 rest : Code) (d g : Nat) (caps : List Operand) : Prop where
 body : ∃ id o0 o1 c, fn.body = some (.seq c0 (.seq (.region id #[o0, o1] false) rest)) ∧ o0.op = .makeFunc (.func g) #[] caps.toArray ∧ o0.guard = none ∧ o0.dst = some d ∧
  o1.op = .defer c ∧ c.callee = .value (.tmp d) ∧ c.args = #[] ∧ o1.guard = none ∧ o1.dst = none
theorem caps_rel {s : St} {a : Act} {w : World} {Im : Nat → Prop} {θ : Th} {ρ : Option Nat} (sim : Sim P ω ρ s a w Im θ) (caps : List Operand) : LRel P ω w Im θ (caps.map s.ev) (caps.map a.eval) :=
 ⟨by simp, fun i v u hv hu => by
  simp only [List.getElem?_map, Option.map_eq_some_iff] at hv
  obtain ⟨c, hc, rfl⟩ := hv
  simp only [List.getElem?_map, hc, Option.map_some, Option.some.injEq] at hu
  subst hu
  have := sim.sf.eval c
  rwa [← evT_ev] at this⟩
theorem LRel.step {new : Nat → Prop} {h h' : HpF} {w w' : World} {Im Im' : Nat → Prop} {θ θ' : Th} {vs : List SV} {us : List Value} (l : LRel P ω w Im θ vs us) (hH : HRel P ω w Im θ h) (hE : Ext new h w Im θ h' w' Im' θ') : LRel P ω w' Im' θ' vs us :=
 ⟨l.len, fun i v u hv hu => hE.val hH (l.at_ i v u hv hu)⟩
theorem defer_calls {f g : FuncId} {fn fg : Func} {c0 rest crest : Code} {d v1 v2 : Nat} {caps : List Operand} (hf : P.funcs[f]? = some fn) (hD : Dfr P fn c0 rest d g caps) (hC : Clo P g fg crest v1 v2)
  {s0 sA sB sD : St} {eB eD : Ex} (heB : ∀ id, eB ≠ .exit id) (heD : ∀ id, eD ≠ .exit id) (hsB : StOk sB) (hsD : StOk sD)
  (hcA : Comes0 P c0 s0 .normal sA) (hdA : d < sA.size) (hcl : caps.length ≤ fg.ntmps) (hcB : Comes0 P rest (sA.put (some d) (.fn (.func g) [] (caps.map sA.ev))) eB sB)
  (hcD : Comes0 P crest (cloSt sB fg.ntmps v1 v2 (caps.map sA.ev) .nili) eD sD) {vsg : List SV} (hres : resultsS P sD fg.results.toList = some vsg)
  {us : List Value} {w : World} {Im : Nat → Prop} {θ : Th} (sim : Sim P ω none s0 { tmps := us.toArray ++ Array.replicate (fn.ntmps - us.toArray.size) undef, defers := [] } w Im θ)
  {vs : List SV} (hvs : resultsS P { sD with tm := sB.tm, size := sB.size, rd := sB.rd } fn.results.toList = some vs) {R : Ending → World → Prop}
  (hR : ∀ u w' Im' θ', HRel P ω w' Im' θ' sD.hp.get → Fr sD.nx θ' sD.hp.get → Ext (fun x => s0.nx ≤ x) s0.hp.get w Im θ sD.hp.get w' Im' θ' → VRel P ω w' Im' θ' (oneOrTup vs) u → R (.returned u) w') : CallsIn (FR none) 0 P f us.toArray w R := by
 obtain ⟨id, o0, o1, c, hb, h1, h2, h3, h4, h4a, h4b, h5, h6⟩ := hD.body
 refine callsIn_of_wp_defers hf hb trivial ?_ rfl
 refine wpIn_seq (hcA.wp ω none _ _ w Im θ sim (fun a1 w1 Im1 θ1 sim1 hE1 hN1 => ?_))
 show (Code.seq (.region id #[o0, o1] false) rest).wpIn (FR none) 0 P _ a1 w1
 refine wpIn_seq ?_
 refine wpIn_region ?_
 show wpOpsIn (FR none) 0 P #[o0, o1] _ [0, 1] a1 w1
 have r0 : ∀ ρ : Operand → Value, (o0.semAt none ρ).run P w1 = .ok (.value (.func (.func g) #[] (caps.toArray.map ρ))) w1 := by
  intro ρ
  refine semAt_value ?_
  obtain ⟨dst, op, type, pos, after, guard⟩ := o0
  simp only at h1
  subst h1
  simp [execOp, Instr.makeFunc]
 have hdA1 : d < a1.tmps.size := by rw [sim1.sf.size]; exact hdA
 have hev : ∀ v, (a1.put (some d) v).eval (.tmp d) = v := by
  intro v
  simp [Act.put, Act.eval, Array.getD, hdA1]
 have r1 : ∀ ρ : Operand → Value, ρ (.tmp d) = .func (.func g) #[] (caps.toArray.map a1.eval) → (o1.semAt none ρ).run P w1 = .ok (.defer { target := .fn (.func g) (caps.toArray.map a1.eval), args := #[] }) w1 := by
  intro ρ hρ
  rw [Oper.semAt_none]
  obtain ⟨dst, op, type, pos, after, guard⟩ := o1
  obtain ⟨callee, cargs, at'⟩ := c
  simp only at h4 h4a h4b
  subst h4; subst h4a; subst h4b
  simp [execOp, resolve, hρ, Deferred.ofValue]
 have simA := put_sim (P := P) sim1 (dst := some d) hdA (r := .fn (.func g) [] (caps.map sA.ev)) (v := .func (.func g) #[] (caps.toArray.map a1.eval))
  (.fn rfl (by simp) (fun i v u hv hu => by simp at hv) (fun i v u hv hu => (caps_rel sim1 caps).at_ i v u hv (by rw [← hu]; simp)))
 generalize hcv : caps.toArray.map a1.eval = cv at r0 r1 simA
 have hcl1 : LRel P ω w1 Im1 θ1 (caps.map sA.ev) cv.toList := by rw [← hcv]; simpa using caps_rel sim1 caps
 have hd1 : a1.defers = [] := hN1
 -- the frame behind the region
 have simA2 : Sim P ω none (sA.put (some d) (.fn (.func g) [] (caps.map sA.ev))) { a1.put (some d) (.func (.func g) #[] cv) with defers := [{ target := .fn (.func g) cv, args := #[] }] } w1 Im1 θ1 :=
  ⟨simA.ok, ⟨simA.sf.size, simA.sf.tm, simA.sf.out, ⟨[], [{ target := .fn (.func g) cv, args := #[] }], rfl, fun e he r => by
   rw [List.mem_singleton] at he
   subst he
   intro hh
   simp at hh, List.nodup_nil, fun r hr => by cases hr⟩, simA.sf.hp⟩, simA.fr, simA.rd⟩
 have goal2 : rest.wpIn (FR none) 0 P (bodyPostDIn (FR none) 0 P fn R) { a1.put (some d) (.func (.func g) #[] cv) with defers := [{ target := .fn (.func g) cv, args := #[] }] } w1 := by
  refine hcB.wp ω none _ _ w1 Im1 θ1 simA2 (fun aB wB ImB θB simB hEB hNB => ?_)
  have hEB' : Ext (fun x => sA.nx ≤ x) sA.hp.get w1 Im1 θ1 sB.hp.get wB ImB θB := by simp only [put_nx, put_hp] at hEB; exact hEB
  have hlB : Later sA sB := (put_later _ _ _).trans hcB.later
  have key : LeavesIn (FR none) 0 P fn aB.tmps R aB.defers .returning wB := by
   rw [show aB.defers = [{ target := .fn (.func g) cv, args := #[] }] from hNB]
   refine leavesIn_cons (by simp) (FR_depth1 none) (f := g) (args := cv) ?_ (fun g _ => FR_fn none g) ?_
   · have hn1 : ¬ fg.name = "runtime.NumGoroutine" := by simpa using hC.nm
     have hn2 : ¬ fg.body = none := by
      obtain ⟨i, p0, p1, c', hbb, -⟩ := hC.body
      rw [hbb]; simp
     simp [invoke, callFunc, hC.fn, hn1, hn2]
   · have hcalls := clo_calls (P := P) (ω := ω) hC (s := sB) (sD := sD) (caps := caps.map sA.ev) (by simpa using hcl) (x := .nili) heD hsB hcD hres simB.sf.hp simB.fr (us := cv.toList) (hcl1.step sim1.sf.hp hEB') (rv := .nilIface) .nili
       (u := .returning) (u2 := .returning) (fun c₀ cs hm => .inr ⟨by simp [recoverD, hm], rfl, rfl⟩)
       (R := fun e u' w' => match e with
        | .returned _ => LeavesIn (FR none) 0 P fn aB.tmps R [] (settle u') w'
        | .panicked chain => LeavesIn (FR none) 0 P fn aB.tmps R [] (raised u' chain) w'
        | .outgrown => R .outgrown w') (fun w' Im' θ' hH hF hE v => by
         have hlD : Later sB sD := ⟨hcD.later.m, hcD.later.nx, hcD.later.same, hcD.later.up, hcD.later.low⟩
         have hS := frame_sim simB hsD hlD hH hF hE
         obtain ⟨u, hu1, hu2⟩ := run_results (f := fn) hS.sf hvs
         refine ⟨u, hu1, hR u w' Im' θ' hH hF ?_ hu2⟩
         exact (hE1.trans (hEB'.mono (fun x hx => Nat.le_trans hcA.later.nx hx))).trans (hE.mono (fun x hx => Nat.le_trans hcA.later.nx (Nat.le_trans hlB.nx hx))))
     have e : cv.toList.toArray = cv := by simp
     rw [e] at hcalls
     exact hcalls.mono (fun e u' w' h => by cases e <;> exact h)
  cases eB with
  | normal => exact key
  | ret => exact key
  | exit id => exact absurd rfl (heB id)
 -- the region
 have e0 : (#[o0, o1] : Array Oper)[0]? = some o0 := rfl
 have e1 : (#[o0, o1] : Array Oper)[1]? = some o1 := rfl
 simp only [wpOpsIn, e0, e1, wanted_none h2, wanted_none h5, if_true]
 refine ⟨fun f _ => FR_fn none f, ?_⟩
 show Oper.uponIn (FR none) 0 P o0 a1 _ _ ((o0.semAt none a1.eval).run P w1)
 rw [r0, hcv, Oper.uponIn_value, h3]
 refine ⟨fun f _ => FR_fn none f, ?_⟩
 show Oper.uponIn (FR none) 0 P o1 _ _ _ ((o1.semAt none (a1.put (some d) (.func (.func g) #[] cv)).eval).run P w1)
 rw [r1 _ (by rw [hev]), Oper.uponIn_defer, h6]
 show rest.wpIn (FR none) 0 P _ _ w1
 have ed : ({ a1.put (some d) (.func (.func g) #[] cv) with defers := { target := .fn (.func g) cv, args := #[] } :: (a1.put (some d) (.func (.func g) #[] cv)).defers } : Act).put none undef = { a1.put (some d) (.func (.func g) #[] cv) with defers := [{ target := .fn (.func g) cv, args := #[] }] } := by
  rw [put_defers, hd1]; rfl
 rw [ed]
 exact goal2
def deferC (P : Program) (κ : Nat → Option CSumm) (fn fg : Func) (c0 rest crest : Code) (d g v1 v2 : Nat) (caps : List Operand) : CSumm := fun args H =>
 bif canonB H 0 && closedB H.length H && Nat.ble args.length fn.ntmps && Nat.blt fn.ntmps 16000 && Nat.blt H.length 1000000 then
  lineR .fail P κ c0 (initSt false fn args H) fun e sA => match e with
   | .normal => bif Nat.blt d sA.size && Nat.ble caps.length fg.ntmps then
     lineR .fail P κ rest (sA.put (some d) (.fn (.func g) [] (caps.map sA.ev))) fun e sB => match e with
      | .exit _ => .fail
      | _ => lineR .fail P κ crest (cloSt sB fg.ntmps v1 v2 (caps.map sA.ev) .nili) fun e sD => match e with
       | .exit _ => .fail
       | _ => match resultsS P sD fg.results.toList with
        | some _ => finishC P fn { sD with tm := sB.tm, size := sB.size, rd := sB.rd }
        | none => .fail
    else .fail
   | _ => .fail
 else .fail
theorem cloSt_ok {s : St} (hs : StOk s) {n v1 v2 : Nat} {caps : List SV} {x : SV} (h1 : caps.length ≤ n) (h2 : n < 16000) (hv1 : v1 < n) (hv2 : v2 < n) : StOk (cloSt s n v1 v2 caps x) := by
 have h0 := enter_ok hs h1 h2
 have h3 := put_ok h0 (d := some v1) hv1 x
 exact put_ok h3 (d := some v2) (by show v2 < _; rw [put_sz]; exact hv2) x
theorem cloSt_later (s : St) (n v1 v2 : Nat) (caps : List SV) (x : SV) : Later s (cloSt s n v1 v2 caps x) :=
 (frame_later s s _ _ _ (Later.refl s)).trans ((put_later _ _ _).trans (put_later _ _ _))
theorem defer_valid {κ : Nat → Option CSumm} (hκ : KOk P κ) {f g : FuncId} {fn fg : Func} {c0 rest crest : Code} {d v1 v2 : Nat} {caps : List Operand} (hf : P.funcs[f]? = some fn) (hD : Dfr P fn c0 rest d g caps) (hC : Clo P g fg crest v1 v2) :
  ValidC P f (deferC P κ fn fg c0 rest crest d g v1 v2 caps) := by
 intro args H v ups hrun _ ω θ Im w us hargs hH hfr
 unfold deferC at hrun
 cases hc : canonB H 0 && closedB H.length H && Nat.ble args.length fn.ntmps && Nat.blt fn.ntmps 16000 && Nat.blt H.length 1000000 with
 | false => rw [hc] at hrun; simp [crun] at hrun
 | true =>
  rw [hc] at hrun
  simp only [cond_true] at hrun
  simp only [Bool.and_eq_true] at hc
  obtain ⟨⟨⟨⟨c1, c2⟩, c3⟩, c4⟩, c5⟩ := hc
  have hal : args.length ≤ fn.ntmps := by rwa [Nat.ble_eq] at c3
  have hnt : fn.ntmps < 16000 := by rwa [Nat.blt_eq] at c4
  have hHl : H.length < 1000000 := by rwa [Nat.blt_eq] at c5
  have hhp : (initSt false fn args H).hp.get = H.get := heapTr_init c1 (by omega)
  have hs0 : StOk { initSt false fn args H with tm := .lf, size := 0 } := by
   refine ⟨by show 0 < 16000; omega, hHl, fun t _ => rfl, ?_, Nat.le_refl _⟩
   intro x c hx
   have hx' : (initSt false fn args H).hp.get x = some c := hx
   rw [hhp] at hx'
   exact canon_lt c1 hx'
  have hst : StOk (initSt false fn args H) := enter_ok hs0 hal hnt
  obtain ⟨eA, sA, hsA, hcA, hrA⟩ := lineR_ok (den := crun) rfl hκ c0 _ _ _ hst hrun
  cases eA with
  | exit id => simp [crun] at hrA
  | ret => simp [crun] at hrA
  | normal =>
   simp only [] at hrA
   cases hd : Nat.blt d sA.size && Nat.ble caps.length fg.ntmps with
   | false => rw [hd] at hrA; simp [crun] at hrA
   | true =>
    rw [hd] at hrA
    simp only [cond_true] at hrA
    simp only [Bool.and_eq_true] at hd
    have hdA : d < sA.size := by have := hd.1; rwa [Nat.blt_eq] at this
    have hcl : caps.length ≤ fg.ntmps := by have := hd.2; rwa [Nat.ble_eq] at this
    obtain ⟨eB, sB, hsB, hcB, hrB⟩ := lineR_ok (den := crun) rfl hκ rest _ _ _ (put_ok hsA (d := some d) hdA _) hrA
    have heB : ∀ id, eB ≠ .exit id := by rintro id rfl; simp [crun] at hrB
    have hrB' : crun (lineR .fail P κ crest (cloSt sB fg.ntmps v1 v2 (caps.map sA.ev) .nili) fun e sD => match e with
          | .exit _ => .fail
          | _ => match resultsS P sD fg.results.toList with
           | some _ => finishC P fn { sD with tm := sB.tm, size := sB.size, rd := sB.rd }
           | none => .fail) = some (v, ups) := by
     cases eB with
     | exit id => exact absurd rfl (heB id)
     | normal => exact hrB
     | ret => exact hrB
    obtain ⟨eD, sD, hsD, hcD, hrD⟩ := lineR_ok (den := crun) rfl hκ crest _ _ _ (cloSt_ok hsB (by simpa using hcl) hC.nt hC.lt1 hC.lt2) hrB'
    have heD : ∀ id, eD ≠ .exit id := by rintro id rfl; simp [crun] at hrD
    have hrD' : crun (match resultsS P sD fg.results.toList with
            | some _ => finishC P fn { sD with tm := sB.tm, size := sB.size, rd := sB.rd }
            | none => .fail) = some (v, ups) := by
     cases eD with
     | exit id => exact absurd rfl (heD id)
     | normal => exact hrD
     | ret => exact hrD
    cases hres : resultsS P sD fg.results.toList with
    | none => rw [hres] at hrD'; simp [crun] at hrD'
    | some vsg =>
     rw [hres] at hrD'
     simp only [] at hrD'
     have hlater : Later (initSt false fn args H) { sD with tm := sB.tm, size := sB.size, rd := sB.rd } :=
      frame_later _ _ _ _ _ (hcA.later.trans ((put_later _ _ _).trans (hcB.later.trans ((cloSt_later _ _ _ _ _ _).trans hcD.later))))
     generalize hsF : ({ sD with tm := sB.tm, size := sB.size, rd := sB.rd } : St) = sF at *
     have hFhp : sF.hp = sD.hp := by rw [← hsF]
     have hFnx : sF.nx = sD.nx := by rw [← hsF]
     have hm2 : sF.m = H.length := hlater.m
     unfold finishC at hrD'
     cases hrs : resultsS P sF fn.results.toList with
     | none => rw [hrs] at hrD'; simp [crun] at hrD'
     | some vs =>
      rw [hrs] at hrD'
      simp only [] at hrD'
      cases hre : reachNew sF.hp sF.m 2000 (namesS (oneOrTup vs) ++ dirtyNames sF.hp sF.dirty) [] with
      | none => rw [hre] at hrD'; simp [crun] at hrD'
      | some ns =>
       rw [hre] at hrD'
       simp only [crun, Option.some.injEq, Prod.mk.injEq] at hrD'
       rw [hm2] at hrD'
       obtain ⟨rfl, rfl⟩ := hrD'
       have hfr0 : Fr (initSt false fn args H).nx θ (initSt false fn args H).hp.get := by
        intro x hx
        have hx' : H.length ≤ x := hx
        refine ⟨hfr x hx', ?_⟩
        rw [hhp]
        cases hg : H.get x with
        | none => rfl
        | some c => have := canon_lt c1 hg; omega
       have sim0 := enter_sim (P := P) hs0 (args := args) (us := us) hal hnt (w := w) (Im := Im) (θ := θ) (by show HRel P ω w Im θ (initSt false fn args H).hp.get; rw [hhp]; exact hH) hfr0 hargs
       refine (callsIn_wide (n := 0)).1 (defer_calls (ω := ω) hf hD hC heB heD hsB hsD hcA hdA hcl hcB hcD hres sim0 (vs := vs) (by rw [hsF]; exact hrs) (fun u w' Im' θ' hH2 _ hE hvu => ?_))
       have hsame : ∀ x, x < H.length → sF.hp.get x = H.get x ∨ x ∈ sF.dirty := by
        intro x hx
        have := hlater.same x hx
        rwa [hhp] at this
       have hdl : ∀ x ∈ sF.dirty, x < H.length := by
        intro x hx
        rcases hlater.low x hx with h | h
        · cases h
        · exact h
       have hext : Ext (fun x => H.length ≤ x) H.get w Im θ sF.hp.get w' Im' θ' := by
        rw [← hhp, hFhp]; exact hE
       obtain ⟨θ3, g1, g2, g3, -⟩ := finish_gen c1 c2 hfr hm2 hsame hdl hre (by rw [hFhp]; exact hH2) hext hvu
       exact ⟨u, θ3, Im', rfl, g1, g2, g3⟩
end Go.Am
