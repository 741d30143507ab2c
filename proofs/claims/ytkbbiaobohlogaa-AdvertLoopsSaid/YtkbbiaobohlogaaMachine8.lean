/- The abstract machine: lists that are answered or left in the heap, known by content from there on. -/
import Derived.Test.YtkbbiaobohlogaaMachine7
import Derived.Test.YtkbbiaobohlogaaMachine4
set_option linter.unusedVariables false
set_option linter.unusedSimpArgs false
namespace Go.Am
variable {P : Program}
def SemV (P : Program) (k e : Nat) (rs : List SV) (v v' : SV) : Prop :=
 ∀ (ω : Nat → Value) (w : World) (Im : Nat → Prop) (θ : Th) (h : HpF) (u : Value), HRel P ω w Im θ h → h k = some (.seq e rs) → VRel P ω w Im θ v u → VRel P ω w (frozenBy Im θ h [k]) θ v' u
def SemC (P : Program) (k e : Nat) (rs : List SV) (x : Nat) (c c' : Chunk) : Prop :=
 ∀ (ω : Nat → Value) (w : World) (Im : Nat → Prop) (θ : Th) (h : HpF), HRel P ω w Im θ h → h k = some (.seq e rs) → CRel P ω w Im θ x c → CRel P ω w (frozenBy Im θ h [k]) θ x c'
variable {k e : Nat} {rs : List SV}
theorem SemV.rfl' {v : SV} : SemV P k e rs v v := fun ω w Im θ h u _ _ hv => hv.mono (frozenBy_up w) (fun _ _ h => h)
theorem SemV.qs {sz n : Nat} (hn : n = rs.length) : SemV P k e rs (.qs k sz 0 n) (.psl e rs) := fun ω w Im θ h u hr hk hv => seq_psl hr hk hn hv
theorem SemV.nils {e' : Nat} : SemV P k e rs .nils (.psl e' []) := fun ω w Im θ h u _ _ hv => (nils_psl hv).mono (frozenBy_up w) (fun _ _ h => h)
inductive SemL (P : Program) (k e : Nat) (rs : List SV) : List SV → List SV → Prop
 | nil : SemL P k e rs [] []
 | cons {v v' : SV} {vs vs' : List SV} : SemV P k e rs v v' → SemL P k e rs vs vs' → SemL P k e rs (v :: vs) (v' :: vs')
theorem SemL.rfl' : ∀ {vs : List SV}, SemL P k e rs vs vs
 | [] => .nil
 | _ :: _ => .cons .rfl' .rfl'
theorem SemL.len : ∀ {vs vs' : List SV}, SemL P k e rs vs vs' → vs'.length = vs.length
 | _, _, .nil => rfl
 | _, _, .cons _ h => by simp [h.len]
theorem SemL.at_ : ∀ {vs vs' : List SV}, SemL P k e rs vs vs' → ∀ (i : Nat) (v' : SV), vs'[i]? = some v' → ∃ v, vs[i]? = some v ∧ SemV P k e rs v v'
 | _, _, .nil, i, v', h => by simp at h
 | _, _, .cons h1 h2, 0, v', h => by simp at h; subst h; exact ⟨_, rfl, h1⟩
 | _, _, .cons h1 h2, i + 1, v', h => by simp at h; obtain ⟨v, h3, h4⟩ := h2.at_ i v' h; exact ⟨v, by simpa using h3, h4⟩
theorem SemL.rel {vs vs' : List SV} (hs : SemL P k e rs vs vs') {ω : Nat → Value} {w : World} {Im : Nat → Prop} {θ : Th} {h : HpF} (hr : HRel P ω w Im θ h) (hk : h k = some (.seq e rs)) {us : List Value} (hl : LRel P ω w Im θ vs us) : LRel P ω w (frozenBy Im θ h [k]) θ vs' us :=
 ⟨by rw [hs.len]; exact hl.len, fun i v' u hv hu => by
  obtain ⟨v, h1, h2⟩ := hs.at_ i v' hv
  exact h2 ω w Im θ h u hr hk (hl.at_ i v u h1 hu)⟩
theorem SemV.tup {vs vs' : List SV} (hs : SemL P k e rs vs vs') : SemV P k e rs (.tup vs) (.tup vs') := by
 intro ω w Im θ h u hr hk hv
 cases hv with
 | tup h1 h2 =>
  have := hs.rel hr hk ⟨h1, fun i v u a b => h2 i v u a (by simpa using b)⟩
  exact .tup this.len (fun i v u a b => this.at_ i v u a (by simpa using b))
theorem SemV.agg {vs vs' : List SV} (hs : SemL P k e rs vs vs') : SemV P k e rs (.agg vs) (.agg vs') := by
 intro ω w Im θ h u hr hk hv
 cases hv with
 | agg h1 h2 =>
  have := hs.rel hr hk ⟨h1, fun i v u a b => h2 i v u a (by simpa using b)⟩
  exact .agg this.len (fun i v u a b => this.at_ i v u a (by simpa using b))
theorem SemC.rfl' {x : Nat} {c : Chunk} : SemC P k e rs x c c := fun ω w Im θ h _ _ hc => hc.mono (frozenBy_up w) (fun _ _ h => h) rfl (fun _ _ _ => rfl)
theorem SemC.cells {x : Nat} {T : TypeId} {vs vs' : List SV} (hs : SemL P k e rs vs vs') : SemC P k e rs x (.cells T vs) (.cells T vs') := by
 rintro ω w Im θ h hr hk ⟨b, cs, fr, h1, h2, h3, h4⟩
 exact ⟨b, cs, fr, by rw [hs.len]; exact h1, h2, h3, hs.rel hr hk h4⟩
def Frozen (P : Program) (H : HpL) (v : SV) (ups : List (Nat × Option Chunk)) (v' : SV) (ups' : List (Nat × Option Chunk)) : Prop :=
 ∃ k e rs, updF ups H.get k = some (.seq e rs) ∧ SemV P k e rs v v' ∧ ∀ x c', updF ups' H.get x = some c' → x ≠ k ∧ ∃ c, updF ups H.get x = some c ∧ SemC P k e rs x c c'
theorem frz_post {ω : Nat → Value} {H : HpL} {w w' : World} {Im Im' : Nat → Prop} {θ θ' : Th} {ups ups' : List (Nat × Option Chunk)} (hk : updF ups H.get k = some (.seq e rs))
  (hu : ∀ x c', updF ups' H.get x = some c' → x ≠ k ∧ ∃ c, updF ups H.get x = some c ∧ SemC P k e rs x c c')
  (hE : Ext (fun x => H.length ≤ x) H.get w Im θ (updF ups H.get) w' Im' θ') (hH : HRel P ω w' Im' θ' (updF ups H.get)) :
  Ext (fun x => H.length ≤ x) H.get w Im θ (updF ups' H.get) w' (frozenBy Im' θ' (updF ups H.get) [k]) θ' ∧ HRel P ω w' (frozenBy Im' θ' (updF ups H.get) [k]) θ' (updF ups' H.get) := by
 have hfb : ∀ b, frozenBy Im' θ' (updF ups H.get) [k] b → Im' b ∨ ∃ N, θ' k = some (b, N) := by
  rintro b (hb | ⟨y, hy, c, N, h1, h2⟩)
  · exact .inl hb
  · rw [List.mem_singleton] at hy; subst hy; exact .inr ⟨N, h2⟩
 refine ⟨?_, ?_⟩
 · refine { thOld := hE.thOld, thUp := hE.thUp, imUp := fun b hb => .inl (hE.imUp b hb), size := hE.size, keep := hE.keep, os := hE.os, output := hE.output, tape := hE.tape, imNew := fun b hb => ?_, ownNew := fun x c' b N hx hθ => ?_ }
   · rcases hfb b hb with hb | ⟨N, hb⟩
     · exact hE.imNew b hb
     · exact .inr (hE.ownNew k _ b N hk hb)
   · obtain ⟨_, c, h1, _⟩ := hu x c' hx
     exact hE.ownNew x c b N h1 hθ
 · refine ⟨fun x c' hx => ?_, fun x y c c' b N N' hx hy h1 h2 => ?_, fun x c' b N hx hθ => ?_, fun b hb => ?_, hH.gl.mono (frozenBy_up w')⟩
   · obtain ⟨_, c, h1, h2⟩ := hu x c' hx
     exact h2 ω w' Im' θ' _ hH hk (hH.at_ x c h1)
   · obtain ⟨_, c1, h3, _⟩ := hu x c hx
     obtain ⟨_, c2, h4, _⟩ := hu y c' hy
     exact hH.inj x y c1 c2 b N N' h3 h4 h1 h2
   · obtain ⟨hne, c, h1, _⟩ := hu x c' hx
     refine ⟨fun hb => ?_, (hH.own x c b N h1 hθ).2⟩
     rcases hfb b hb with hb | ⟨M, hb⟩
     · exact (hH.own x c b N h1 hθ).1 hb
     · exact hne (hH.inj x k c _ b N M h1 hk hθ hb)
   · rcases hfb b hb with hb | ⟨M, hb⟩
     · exact hH.im b hb
     · exact (hH.own k _ b M hk hb).2
def CoV (P : Program) (v v' : SV) : Prop := ∀ (ω : Nat → Value) (w : World) (Im : Nat → Prop) (θ : Th) (u : Value), VRel P ω w Im θ v u → VRel P ω w Im θ v' u
def CoC (P : Program) (x : Nat) (c c' : Chunk) : Prop := ∀ (ω : Nat → Value) (w : World) (Im : Nat → Prop) (θ : Th), CRel P ω w Im θ x c → CRel P ω w Im θ x c'
theorem CoV.rfl' {v : SV} : CoV P v v := fun _ _ _ _ _ h => h
theorem CoC.rfl' {x : Nat} {c : Chunk} : CoC P x c c := fun _ _ _ _ h => h
theorem CoV.nils {e' : Nat} : CoV P .nils (.psl e' []) := fun _ _ _ _ _ h => nils_psl h
inductive CoL (P : Program) : List SV → List SV → Prop
 | nil : CoL P [] []
 | cons {v v' : SV} {vs vs' : List SV} : CoV P v v' → CoL P vs vs' → CoL P (v :: vs) (v' :: vs')
theorem CoL.rfl' : ∀ {vs : List SV}, CoL P vs vs
 | [] => .nil
 | _ :: _ => .cons .rfl' .rfl'
theorem CoL.len : ∀ {vs vs' : List SV}, CoL P vs vs' → vs'.length = vs.length
 | _, _, .nil => rfl
 | _, _, .cons _ h => by simp [h.len]
theorem CoL.at_ : ∀ {vs vs' : List SV}, CoL P vs vs' → ∀ (i : Nat) (v' : SV), vs'[i]? = some v' → ∃ v, vs[i]? = some v ∧ CoV P v v'
 | _, _, .nil, i, v', h => by simp at h
 | _, _, .cons h1 h2, 0, v', h => by simp at h; subst h; exact ⟨_, rfl, h1⟩
 | _, _, .cons h1 h2, i + 1, v', h => by simp at h; obtain ⟨v, h3, h4⟩ := h2.at_ i v' h; exact ⟨v, by simpa using h3, h4⟩
theorem CoL.rel {vs vs' : List SV} (hs : CoL P vs vs') {ω : Nat → Value} {w : World} {Im : Nat → Prop} {θ : Th} {us : List Value} (hl : LRel P ω w Im θ vs us) : LRel P ω w Im θ vs' us :=
 ⟨by rw [hs.len]; exact hl.len, fun i v' u hv hu => by
  obtain ⟨v, h1, h2⟩ := hs.at_ i v' hv
  exact h2 ω w Im θ u (hl.at_ i v u h1 hu)⟩
theorem CoV.tup {vs vs' : List SV} (hs : CoL P vs vs') : CoV P (.tup vs) (.tup vs') := by
 intro ω w Im θ u hv
 cases hv with
 | tup h1 h2 =>
  have := hs.rel (ω := ω) (w := w) (Im := Im) (θ := θ) ⟨h1, fun i v u a b => h2 i v u a (by simpa using b)⟩
  exact .tup this.len (fun i v u a b => this.at_ i v u a (by simpa using b))
theorem CoV.agg {vs vs' : List SV} (hs : CoL P vs vs') : CoV P (.agg vs) (.agg vs') := by
 intro ω w Im θ u hv
 cases hv with
 | agg h1 h2 =>
  have := hs.rel (ω := ω) (w := w) (Im := Im) (θ := θ) ⟨h1, fun i v u a b => h2 i v u a (by simpa using b)⟩
  exact .agg this.len (fun i v u a b => this.at_ i v u a (by simpa using b))
theorem CoC.cells {x : Nat} {T : TypeId} {vs vs' : List SV} (hs : CoL P vs vs') : CoC P x (.cells T vs) (.cells T vs') := by
 rintro ω w Im θ ⟨b, cs, fr, h1, h2, h3, h4⟩
 exact ⟨b, cs, fr, by rw [hs.len]; exact h1, h2, h3, hs.rel h4⟩
def Told (P : Program) (H : HpL) (v : SV) (ups : List (Nat × Option Chunk)) (v' : SV) (ups' : List (Nat × Option Chunk)) : Prop :=
 CoV P v v' ∧ ∀ x c', updF ups' H.get x = some c' → ∃ c, updF ups H.get x = some c ∧ CoC P x c c'
theorem told_post {ω : Nat → Value} {H : HpL} {w w' : World} {Im Im' : Nat → Prop} {θ θ' : Th} {ups ups' : List (Nat × Option Chunk)}
  (hu : ∀ x c', updF ups' H.get x = some c' → ∃ c, updF ups H.get x = some c ∧ CoC P x c c')
  (hE : Ext (fun x => H.length ≤ x) H.get w Im θ (updF ups H.get) w' Im' θ') (hH : HRel P ω w' Im' θ' (updF ups H.get)) :
  Ext (fun x => H.length ≤ x) H.get w Im θ (updF ups' H.get) w' Im' θ' ∧ HRel P ω w' Im' θ' (updF ups' H.get) := by
 refine ⟨?_, ?_⟩
 · refine { thOld := hE.thOld, thUp := hE.thUp, imUp := hE.imUp, size := hE.size, keep := hE.keep, os := hE.os, output := hE.output, tape := hE.tape, imNew := hE.imNew, ownNew := fun x c' b N hx hθ => ?_ }
   obtain ⟨c, h1, _⟩ := hu x c' hx
   exact hE.ownNew x c b N h1 hθ
 · refine ⟨fun x c' hx => ?_, fun x y c c' b N N' hx hy h1 h2 => ?_, fun x c' b N hx hθ => ?_, hH.im, hH.gl⟩
   · obtain ⟨c, h1, h2⟩ := hu x c' hx
     exact h2 ω w' Im' θ' (hH.at_ x c h1)
   · obtain ⟨c1, h3, _⟩ := hu x c hx
     obtain ⟨c2, h4, _⟩ := hu y c' hy
     exact hH.inj x y c1 c2 b N N' h3 h4 h1 h2
   · obtain ⟨c, h1, _⟩ := hu x c' hx
     exact hH.own x c b N h1 hθ
theorem known_told {f : FuncId} {s s' : CSumm} (h : Known P f s) (hs : ∀ args H v' ups', crun (s' args H) = some (v', ups') → ∃ v ups, crun (s args H) = some (v, ups) ∧ (Frozen P H v ups v' ups' ∨ Told P H v ups v' ups')) : Known P f s' := by
 refine ⟨h.fn, ?_⟩
 intro args H v' ups' hr hc ω θ Im w us hl hH hfr
 obtain ⟨v, ups, hr', hh⟩ := hs args H v' ups' hr
 refine (h.ok args H v ups hr' hc ω θ Im w us hl hH hfr).mono ?_
 rintro o w' ⟨u, θ', Im', rfl, hE, hvu, hH'⟩
 rcases hh with ⟨k, e, rs, hk, hv, hu⟩ | ⟨hv, hu⟩
 · obtain ⟨h1, h2⟩ := frz_post hk hu hE hH'
   exact ⟨u, θ', _, rfl, h1, hv ω w' Im' θ' _ u hH' hk hvu, h2⟩
 · obtain ⟨h1, h2⟩ := told_post hu hE hH'
   exact ⟨u, θ', Im', rfl, h1, hv ω w' Im' θ' u hvu, h2⟩
structure From (P : Program) (args : List SV) (H : HpL) (args2 : List SV) (H2 : HpL) : Prop where
 args : CoL P args args2
 canon : Canon H2
 len : H2.length = H.length
 fwd : ∀ x c, H.get x = some c → ∃ c2, H2.get x = some c2 ∧ CoC P x c c2
 bwd : ∀ x c2, H2.get x = some c2 → ∃ c, H.get x = some c
theorem From.ext {args args2 : List SV} {H H2 : HpL} (h : From P args H args2 H2) {w w' : World} {Im Im' : Nat → Prop} {θ θ' : Th} {h' : HpF} (he : Ext (fun x => H2.length ≤ x) H2.get w Im θ h' w' Im' θ') : Ext (fun x => H.length ≤ x) H.get w Im θ h' w' Im' θ' := by
 rw [h.len] at he
 refine { thOld := he.thOld, thUp := he.thUp, imUp := he.imUp, size := he.size, os := he.os, output := he.output, tape := he.tape, keep := fun b hb hno => ?_, imNew := fun b hb => ?_, ownNew := fun x c b N hx hθ => ?_ }
 · refine he.keep b hb (fun x c N hx hθ => ?_)
   obtain ⟨c0, h1⟩ := h.bwd x c hx
   exact hno x c0 N h1 hθ
 · rcases he.imNew b hb with h1 | ⟨x, c, N, h1, h2⟩ | h1
   · exact .inl h1
   · obtain ⟨c0, h3⟩ := h.bwd x c h1
     exact .inr (.inl ⟨x, c0, N, h3, h2⟩)
   · exact .inr (.inr h1)
 · rcases he.ownNew x c b N hx hθ with ⟨y, c', N', h1, h2⟩ | h1
   · obtain ⟨c0, h3⟩ := h.bwd y c' h1
     exact .inl ⟨y, c0, N', h3, h2⟩
   · exact .inr h1
end Go.Am
/- The abstract machine: loops known by what their rounds come to, told by other words. -/
namespace Go.Am
variable {P : Program}
def ToldL (P : Program) (H : HpL) (v : SV) (ups : List (Nat × Option Chunk)) (v' : SV) (ups' : List (Nat × Option Chunk)) : Prop :=
 ∃ (c : Int) (vs vs' : List SV), v = .tup (.int .i64 c :: vs) ∧ v' = .tup (.int .i64 c :: vs') ∧ CoL P vs vs' ∧ ∀ x c', updF ups' H.get x = some c' → ∃ c, updF ups H.get x = some c ∧ CoC P x c c'
theorem loop_told {e : LEnt} {s' : CSumm} (h : ValidL P e) (hs : ∀ args H v' ups', crun (s' args H) = some (v', ups') → ∃ v ups, crun (e.s args H) = some (v, ups) ∧ ToldL P H v ups v' ups') : ValidL P { e with s := s' } := by
 intro args H kk c0 outs' ups' hr hc ho ha
 obtain ⟨v, ups, hr', c, vs, vs', rfl, hv, hl, hu⟩ := hs args H _ ups' hr
 simp only [SV.tup.injEq, List.cons.injEq, SV.int.injEq] at hv
 obtain ⟨⟨rfl, rfl⟩, rfl⟩ := hv
 obtain ⟨m, hm⟩ := h args H .i64 c0 vs ups hr' hc (by rw [← hl.len]; exact ho) ha
 refine ⟨m, fun ω θ Im w a Q hsz hla hH hfr hmk hQ => hm ω θ Im w a Q hsz hla hH hfr hmk ?_⟩
 intro a' w' Im' θ' b1 b2 b3 b4 b5 b6 b7
 obtain ⟨h1, h2⟩ := told_post hu b2 b4
 refine hQ a' w' Im' θ' b1 h1 (hl.rel b3) h2 b5 ?_ b7
 obtain ⟨rs', base, r1, rb, r2, r3⟩ := b6
 refine ⟨rs', base, r1, rb, r2, fun r hrr => ⟨(r3 r hrr).1, (r3 r hrr).2.1, fun x c' N hx => ?_⟩⟩
 obtain ⟨c, g1, _⟩ := hu x c' hx
 exact (r3 r hrr).2.2 x c N g1
theorem boundT_at {μ : List SV → HpL → Nat} {s : CSumm} {n : Nat} {args : List SV} {H : HpL} {v : SV} {ups : List (Nat × Option Chunk)} (h : crun (boundT μ s n args H) = some (v, ups)) : Nat.blt (μ args H) n = true ∧ crun (s args H) = some (v, ups) := by
 unfold boundT at h
 cases hb : Nat.blt (μ args H) n with
 | false => rw [hb] at h; cases h
 | true => rw [hb] at h; exact ⟨rfl, h⟩
end Go.Am
/- The abstract machine: loops known by what their rounds come to, told by other words in several steps. -/
namespace Go.Am
variable {P : Program}
inductive ChainL (P : Program) (H : HpL) : SV → List (Nat × Option Chunk) → SV → List (Nat × Option Chunk) → Prop
 | same {v ups ups'} : (∀ x, updF ups' H.get x = updF ups H.get x) → ChainL P H v ups v ups'
 | ren {v ups v' ups'} : Renamed H v ups v' ups' → ChainL P H v ups v' ups'
 | told {v ups v' ups'} : ToldL P H v ups v' ups' → ChainL P H v ups v' ups'
 | trans {v ups v1 ups1 v' ups'} : ChainL P H v ups v1 ups1 → ChainL P H v1 ups1 v' ups' → ChainL P H v ups v' ups'
noncomputable def oneS1 (args : List SV) (H : HpL) (v : SV) (ups : List (Nat × Option Chunk)) : CSumm := fun a h => by classical exact if a = args ∧ h = H then .ret v ups else .fail
theorem oneS1_at {args : List SV} {H : HpL} {v : SV} {ups : List (Nat × Option Chunk)} {a : List SV} {h : HpL} {v' : SV} {u' : List (Nat × Option Chunk)} (hx : crun (oneS1 args H v ups a h) = some (v', u')) : a = args ∧ h = H ∧ v' = v ∧ u' = ups := by
 simp only [oneS1] at hx
 split at hx
 · rename_i hq; cases hx; exact ⟨hq.1, hq.2, rfl, rfl⟩
 · cases hx
theorem oneS1_run (args : List SV) (H : HpL) (v : SV) (ups : List (Nat × Option Chunk)) : crun (oneS1 args H v ups args H) = some (v, ups) := by simp [oneS1, crun]
theorem loop_chain {e : LEnt} {args : List SV} {H : HpL} {v : SV} {ups : List (Nat × Option Chunk)} {v' : SV} {ups' : List (Nat × Option Chunk)} (hch : ChainL P H v ups v' ups') : ValidL P { e with s := oneS1 args H v ups } → ValidL P { e with s := oneS1 args H v' ups' } := by
 induction hch with
 | same hs =>
  intro h
  refine loop_ren (e := { e with s := oneS1 args H _ _ }) h (fun a h2 v2 u2 hx => ?_)
  obtain ⟨rfl, rfl, rfl, rfl⟩ := oneS1_at hx
  exact .inl ⟨_, oneS1_run _ _ _ _, hs⟩
 | ren hs =>
  intro h
  refine loop_ren (e := { e with s := oneS1 args H _ _ }) h (fun a h2 v2 u2 hx => ?_)
  obtain ⟨rfl, rfl, rfl, rfl⟩ := oneS1_at hx
  exact .inr ⟨_, _, oneS1_run _ _ _ _, hs⟩
 | told hs =>
  intro h
  refine loop_told (e := { e with s := oneS1 args H _ _ }) h (fun a h2 v2 u2 hx => ?_)
  obtain ⟨rfl, rfl, rfl, rfl⟩ := oneS1_at hx
  exact ⟨_, _, oneS1_run _ _ _ _, hs⟩
 | trans _ _ ih1 ih2 => exact fun h => ih2 (ih1 h)
theorem loop_valid5 {T : LTab} {sp : Bool} {fuel : Nat} {e : LEnt} {c : Code} {μ : List SV → HpL → Nat} (hmix : P.follows .mixedOrders = true) (hT : LOk P T) (hfill : fillC T c = e.code)
  (hstep : ∀ n args H v' ups', Nat.blt (μ args H) (n + 1) = true → crun (e.s args H) = some (v', ups') → ∃ (κ : Nat → Option CSumm) (ι : Nat → Bool), KOk P κ ∧
   ∃ v ups, crun (loopOnce P κ ι T sp fuel e { e with s := boundT μ e.s n } c args H) = some (v, ups) ∧ ChainL P H v ups v' ups') : ValidL P e := by
 have key : ∀ n, ValidL P { e with s := boundT μ e.s n } := by
  intro n
  induction n with
  | zero =>
   intro args H k c outs ups hrun
   obtain ⟨h1, _⟩ := boundT_at hrun
   rw [Nat.blt_eq] at h1; omega
  | succ n ih =>
   intro args H k c0 outs ups hrun hc ho ha
   obtain ⟨hb, hr⟩ := boundT_at hrun
   obtain ⟨κ, ι, hκ, v, u, hrn, hch⟩ := hstep n args H _ ups hb hr
   have hv := round_valid (κ := κ) (ι := ι) (T := T) (sp := sp) (fuel := fuel) (c := c) hκ hmix hT hfill ih
   have h1 : ValidL P { e with s := oneS1 args H v u } := loop_ren (e := { e with s := fun args H => loopOnce P κ ι T sp fuel e { e with s := boundT μ e.s n } c args H }) hv (fun a h v' u' hx => by
    obtain ⟨rfl, rfl, rfl, rfl⟩ := oneS1_at hx
    exact .inl ⟨_, hrn, fun _ => rfl⟩)
   exact loop_chain hch h1 args H k c0 outs ups (oneS1_run _ _ _ _) hc ho ha
 intro args H k c0 outs ups hrun
 exact key (μ args H + 1) args H k c0 outs ups (by
  show crun (boundT μ e.s _ args H) = _
  unfold boundT
  rw [show Nat.blt (μ args H) (μ args H + 1) = true by rw [Nat.blt_eq]; omega]
  exact hrun)
end Go.Am
/- The abstract machine: a loop over a map: in whatever order the entries come, the rounds come to one end. -/
namespace Go.Am
variable {P : Program} {ω : Nat → Value}
inductive NTree where
 | ret (v : SV) (ups : List (Nat × Option Chunk))
 | any (a b : NTree)
 | fail
def toN : CTree → NTree
 | .ret v ups => .ret v ups
 | .ite b t e => bif b then toN t else toN e
 | .fail => .fail
noncomputable def oneOf (x y : Option (SV × List (Nat × Option Chunk))) : Option (SV × List (Nat × Option Chunk)) := by
 classical exact if x = y then x else none
noncomputable def denN : NTree → Option (SV × List (Nat × Option Chunk))
 | .ret v ups => some (v, ups)
 | .any a b => oneOf (denN a) (denN b)
 | .fail => none
theorem denN_any {a b : NTree} {d : SV × List (Nat × Option Chunk)} (h : denN (.any a b) = some d) : denN a = some d ∧ denN b = some d := by
 simp only [denN, oneOf] at h
 split at h
 · rename_i e; exact ⟨h, by rw [← e]; exact h⟩
 · cases h
theorem denN_same {a b : NTree} {d : SV × List (Nat × Option Chunk)} (ha : denN a = some d) (hb : denN b = some d) : denN (.any a b) = some d := by
 simp only [denN, oneOf, ha, hb]
 simp
theorem denN_toN : ∀ (t : CTree), denN (toN t) = crun t
 | .ret _ _ => rfl
 | .ite b t e => by cases b <;> simp [toN, crun, denN_toN t, denN_toN e]
 | .fail => rfl
def anyN : List NTree → NTree
 | [] => .fail
 | a :: l => match l with
  | [] => a
  | _ :: _ => .any a (anyN l)
theorem denN_anyN {d : SV × List (Nat × Option Chunk)} : ∀ {l : List NTree}, denN (anyN l) = some d → ∀ t ∈ l, denN t = some d
 | [], _, t, ht => by cases ht
 | [a], h, t, ht => by
  simp only [List.mem_singleton] at ht
  subst ht; exact h
 | a :: b :: l, h, t, ht => by
  obtain ⟨h1, h2⟩ := denN_any (a := a) (b := anyN (b :: l)) h
  rcases List.mem_cons.1 ht with rfl | ht
  · exact h1
  · exact denN_anyN h2 t ht
def nextOpts (s : St) (it : Operand) : Option (Nat × List (SV × Option Chunk)) :=
 match s.ev it with
 | .ptr y 0 => match s.hp.get y with
  | some (.mit z since seen last) => match s.hp.get z with
   | some (.mpn bs cl ks vs) => bif ageOk since last bs then
     match leftR seen bs ks vs with
     | [] => some (y, [(.tup [.bool false], none)])
     | e :: l => some (y, (e :: l).map fun e => (.tup [.bool true, e.2.1, e.2.2], some (.mit z since (seen ++ [e.1]) cl)))
    else none
   | _ => none
  | _ => none
 | _ => none
section
variable (P : Program) (κ : Nat → Option CSumm) (ι : Nat → Bool) (fuel : Nat)
def loopN : Nat → Code → St → (Ex → St → NTree) → NTree
 | 0, _, _, _ => .fail
 | n + 1, c, s, k => match c with
  | .seq (.region _ ops false) rest => match ops.toList with
   | o :: os => match o.op, o.guard with
    | .next it false, none => bif dstOk s o.dst then
      match nextOpts s it with
      | some (y, l) => anyN (l.map fun p => opsQ .fail P κ ι (exec .fail P κ ι fuel) (o :: os) (fun s1 => exec .fail P κ ι fuel rest s1 fun e s2 => match e with
        | .normal => loopN n c s2 k
        | e => k e s2) os ((s.upd [(y, p.2)] s.nx).put o.dst p.1))
      | none => .fail
     else .fail
    | _, _ => .fail
   | [] => .fail
  | _ => .fail
def loopNOnce (n : Nat) (sp : Bool) (e : LEnt) (args : List SV) (H : HpL) : NTree :=
 bif canonB H 0 && closedB H.length H && Nat.beq args.length e.ins.length && Nat.blt e.size 16000 && Nat.blt H.length 1000000 && lowB e.size e.ins && lowB e.size e.keep && lowB e.size e.outs && noOpqL args && noOpqH H && lowB H.length (namesL args) then
  loopN P κ ι fuel n e.code (loopSt sp e args H) (fun ex s => toN (finishL e ex s))
 else .fail
end
section
variable {w : World} {Im : Nat → Prop} {θ : Th} {h : HpF}
theorem drop_rel (hr : HRel P ω w Im θ h) (y : Nat) : Ext (fun _ => False) h w Im θ (updF [(y, none)] h) w Im θ ∧ HRel P ω w Im θ (updF [(y, none)] h) := by
 have hs : ∀ x c, updF [(y, none)] h x = some c → h x = some c := by
  intro x c hx
  simp only [updF] at hx
  by_cases e : x = y
  · rw [if_pos e] at hx; cases hx
  · rwa [if_neg e] at hx
 exact ⟨⟨fun _ _ => rfl, fun _ _ h => h, fun _ h => h, Nat.le_refl _, fun _ _ _ => rfl, fun _ h => .inl h, fun x c b N hx hθ => .inl ⟨x, c, N, hs x c hx, hθ⟩, rfl, rfl, rfl⟩,
  ⟨fun x c hx => hr.at_ x c (hs x c hx), fun x z c c' b N N' hx hz => hr.inj x z c c' b N N' (hs x c hx) (hs z c' hz), fun x c b N hx => hr.own x c b N (hs x c hx), hr.im, hr.gl⟩⟩
end
theorem next_wp {o : Oper} {it : Operand} (ho : o.op = .next it false) {s : St} {y : Nat} {l : List (SV × Option Chunk)} (hopt : nextOpts s it = some (y, l)) (hs : StOk s) (hd : dstN s.size o.dst) :
  y < s.nx ∧ ∀ (ω : Nat → Value) (ρ : Option Nat) (K : Act → World → Prop) (Q : Exit → Act → World → Prop) (a : Act) (w : World) (Im : Nat → Prop) (θ : Th), Sim P ω ρ s a w Im θ →
   (∀ p ∈ l, After P ω ρ s ((s.upd [(y, p.2)] s.nx).put o.dst p.1) a w Im θ K) → o.wpIn (FR ρ) 0 P a w K Q := by
 unfold nextOpts at hopt
 split at hopt
 case h_2 => cases hopt
 rename_i y' hev
 split at hopt
 case h_2 => cases hopt
 rename_i z since seen last hy
 split at hopt
 case h_2 => cases hopt
 rename_i bs cl ks vs hz
 cases hok : ageOk since last bs with
 | false => rw [hok] at hopt; cases hopt
 | true =>
  rw [hok] at hopt
  simp only [cond_true] at hopt
  have hyn : y' < s.nx := hs.dom _ _ hy
  have hyy : y' = y := by split at hopt <;> (simp only [Option.some.injEq, Prod.mk.injEq] at hopt; exact hopt.1)
  subst hyy
  refine ⟨hyn, fun ω ρ K Q a w Im θ sim hA => ?_⟩
  have hu := sim.sf.eval it
  rw [← evT_ev, hev] at hu
  have hall := run_nextAll (P := P) sim.sf.hp hy hz hok hu o.type
  -- one outcome
  have one : ∀ (r : SV) (c : Option Chunk), (r, c) ∈ l → ∀ (v : Value) (w' : World), (Instr.next (a.eval it) false o.type).run P w = .ok v w' → VRel P ω w' Im θ r v → Ext (fun _ => False) s.hp.get w Im θ (updF [(y', c)] s.hp.get) w' Im θ → HRel P ω w' Im θ (updF [(y', c)] s.hp.get) → o.wpIn (FR ρ) 0 P a w K Q := by
   intro r c hm v w' hrun hv hE hH
   have hg : Good P ω o a w Im θ s.hp.get r [(y', c)] s.nx s.nx := good_run (by obtain ⟨dst, op, type, pos, after, guard⟩ := o; simp only at ho; subst ho; simp [execOp, hrun]) (hE.mono (fun _ h => h.elim)) hv hH
   refine hg ρ K Q (fun v w' Im' θ' hE hv hH => ?_)
   have hk : ∀ p ∈ [(y', c)], p.1 < s.nx := fun p hp => by simp only [List.mem_singleton] at hp; subst hp; exact hyn
   have hsn := hs.nx
   have hk2 : ∀ p ∈ [(y', c)], p.1 < 1000000 := fun p hp => by have := hk p hp; omega
   have ou := upd_ok hs (Nat.le_refl _) hs.nx hk
   have hhp : (s.upd [(y', c)] s.nx).hp.get = updF [(y', c)] s.hp.get := upsTr_get _ _ hk2
   have hE' : Ext (fun x => s.nx ≤ x) s.hp.get w Im θ (updF [(y', c)] s.hp.get) w' Im' θ' := hE.mono (fun x hx => hx.1)
   refine hA (r, c) hm _ w' Im' θ' ⟨put_ok ou hd r, ?_, ?_, ?_⟩ ?_ (New.refl (put_defers _ _ _))
   · rw [put_sz, put_hp, hhp, tmp_put (s := s.upd [(y', c)] s.nx) hd ou.size]
     exact sim.sf.step hd hE hv hH
   · rw [put_nx, put_hp, hhp]
     intro x hx
     have hx' : s.nx ≤ x := hx
     obtain ⟨f1, f2⟩ := sim.fr x hx'
     refine ⟨by rw [hE.thOld x (by omega)]; exact f1, ?_⟩
     simp only [updF]
     rw [if_neg (by omega)]
     exact f2
   · rw [put_rd]
     rcases sim.rd with g | ⟨y, b, N, g1, g2, g3⟩
     · exact .inl g
     · exact .inr ⟨y, b, N, g1, hE.thUp _ _ g2, g3⟩
   · rw [put_hp, hhp]; exact hE'
  rcases hall with ⟨h1, h2⟩ | ⟨b, k, v, h1, uk, uv, w', h2, h3, h4, h5, h6⟩
  · rw [h1] at hopt
    simp only [Option.some.injEq, Prod.mk.injEq, true_and] at hopt
    subst hopt
    obtain ⟨d1, d2⟩ := drop_rel sim.sf.hp y'
    exact one (.tup [.bool false]) none (by simp) _ w h2 (.tup rfl (fun i v u hv hu => by
     match i, hv, hu with
     | 0, hv, hu => cases hv; cases hu; exact .bool)) d1 d2
  · cases hl : leftR seen bs ks vs with
    | nil => rw [hl] at h1; cases h1
    | cons e0 l0 =>
     rw [hl] at hopt h1
     simp only [Option.some.injEq, Prod.mk.injEq, true_and] at hopt
     subst hopt
     exact one (.tup [.bool true, k, v]) (some (.mit z since (seen ++ [b]) cl)) (List.mem_map.2 ⟨(b, k, v), h1, rfl⟩) _ w' h2 (.tup rfl (fun i x u hv hu => by
      match i, hv, hu with
      | 0, hv, hu => cases hv; cases hu; exact .bool
      | 1, hv, hu => cases hv; cases hu; exact h3
      | 2, hv, hu => cases hv; cases hu; exact h4)) h5 h6
theorem loopN_run {κ : Nat → Option CSumm} {ι : Nat → Bool} {fuel : Nat} (hκ : KOk P κ) (hmix : P.follows .mixedOrders = true) {c : Code} {k : Ex → St → NTree} {d : SV × List (Nat × Option Chunk)} : ∀ (n : Nat) (s : St), StOk s → denN (loopN P κ ι fuel n c s k) = some d →
  ∀ (ω : Nat → Value) (ρ : Option Nat) (Q : Exit → Act → World → Prop) (a : Act) (w : World) (Im : Nat → Prop) (θ : Th), Sim P ω ρ s a w Im θ →
   (∀ e s', StOk s' → Later s s' → s'.size = s.size → s'.rd = s.rd → denN (k e s') = some d → After P ω ρ s s' a w Im θ (Q (exitOf e))) → Code.roundsIn (FR ρ) 0 P c Q n a w
 | 0, s, hs, h, ω, ρ, Q, a, w, Im, θ, sim, hA => by simp [loopN, denN] at h
 | n + 1, s, hs, h, ω, ρ, Q, a, w, Im, θ, sim, hA => by
  have hno : ∀ {t : SV × List (Nat × Option Chunk)}, denN .fail = some t → False := fun h => by cases h
  simp only [loopN] at h
  split at h
  case h_2 => exact (hno h).elim
  rename_i rid ops rest
  split at h
  case h_2 => exact (hno h).elim
  rename_i o os hops
  split at h
  case h_2 => exact (hno h).elim
  rename_i it hop hguard
  cases hd : dstOk s o.dst with
  | false => rw [hd] at h; exact (hno h).elim
  | true =>
   rw [hd] at h
   simp only [cond_true] at h
   have hdN := dstOk_N hd
   split at h
   case h_2 => exact (hno h).elim
   rename_i y l hopt
   obtain ⟨hyn, hwp⟩ := next_wp (P := P) hop hopt hs hdN
   have hall := denN_anyN h
   have hrec := exec_ok (P := P) (den := denN) (fl := .fail) rfl hκ hmix (ι := ι) fuel
   rw [roundsIn_succ]
   refine wpIn_seq (wpIn_region ?_)
   have hsize : ops.size = os.length + 1 := by rw [← Array.length_toList, hops]; rfl
   have hto : ops = (o :: os).toArray := by rw [← hops]
   rw [hsize, List.range_eq_range', List.range'_succ]
   simp only [wpOpsIn]
   have hget : ops[0]? = some o := by rw [hto]; rfl
   rw [hget]
   simp only []
   have hwant : Region.wanted o (yielded ops a.tmps) = true := by
    unfold Region.wanted
    simp [hguard]
   rw [if_pos hwant]
   refine hwp ω ρ _ _ a w Im θ sim (fun p hp => ?_)
   have hp1 := hall _ (List.mem_map.2 ⟨p, hp, rfl⟩)
   have hk : ∀ q ∈ [(y, p.2)], q.1 < s.nx := fun q hq => by simp only [List.mem_singleton] at hq; subst hq; exact hyn
   have hsn := hs.nx
   have hk2 : ∀ q ∈ [(y, p.2)], q.1 < 1000000 := fun q hq => by have := hk q hq; omega
   have ou := upd_ok hs (Nat.le_refl _) hs.nx hk
   have hs1 := put_ok ou (d := o.dst) hdN p.1
   have hl1 : Later s ((s.upd [(y, p.2)] s.nx).put o.dst p.1) := (upd_later (Nat.le_refl _) hk2).trans (put_later _ _ _)
   obtain ⟨s2, hs2, hl2, z2, r2, h2, hw2⟩ := opsQ_run (P := P) (den := denN) (fl := .fail) rfl hrec hκ os 1 _ (by rfl) hs1 hp1
   obtain ⟨e3, s3, hs3, hc3, h3⟩ := hrec rest s2 _ d hs2 h2
   intro a1 w1 Im1 θ1 sim1 hE1 hN1
   rw [hto]
   refine hw2 ω ρ _ a1 w1 Im1 θ1 sim1 (fun a2 w2 Im2 θ2 sim2 hE2 hN2 => ?_)
   have hE12 : Ext (fun x => s.nx ≤ x) s.hp.get w Im θ s2.hp.get w2 Im2 θ2 := hE1.trans (hE2.mono (fun x hx => Nat.le_trans hl1.nx hx))
   have hN12 : New a a2 w := hN1.trans hN2 hE1.size
   have hl12 : Later s s2 := hl1.trans hl2
   refine hc3.wp ρ _ a2 w2 Im2 θ2 sim2 (fun a3 w3 Im3 θ3 sim3 hE3 hN3 => ?_)
   have hE13 : Ext (fun x => s.nx ≤ x) s.hp.get w Im θ s3.hp.get w3 Im3 θ3 := hE12.trans (hE3.mono (fun x hx => Nat.le_trans hl12.nx hx))
   have hN13 : New a a3 w := hN12.trans hN3 hE12.size
   have hl13 : Later s s3 := hl12.trans hc3.later
   have hsz : s3.size = s.size := by rw [hc3.size, z2, put_sz]; rfl
   have hrd : s3.rd = s.rd := by rw [hc3.rd, r2, put_rd]; rfl
   cases e3 with
   | normal =>
    rw [← hto]
    exact loopN_run hκ hmix n s3 hs3 h3 ω ρ Q a3 w3 Im3 θ3 sim3 (fun e s' h1 h2 h3 h4 h5 => After.trans hl13 hE13 hN13 (hA e s' h1 (hl13.trans h2) (by rw [h3, hsz]) (by rw [h4, hrd]) h5))
   | exit id => exact hA (.exit id) s3 hs3 hl13 hsz hrd h3 a3 w3 Im3 θ3 sim3 hE13 hN13
   | ret => exact hA .ret s3 hs3 hl13 hsz hrd h3 a3 w3 Im3 θ3 sim3 hE13 hN13
theorem mapLoop_valid {κ : Nat → Option CSumm} {ι : Nat → Bool} {fuel n : Nat} {sp : Bool} {e : LEnt} (hκ : KOk P κ) (hmix : P.follows .mixedOrders = true)
  (hstep : ∀ args H r, crun (e.s args H) = some r → denN (loopNOnce P κ ι fuel n sp e args H) = some r) : ValidL P e := by
 intro args H k c0 outs ups hrun hcanon hol hal
 have hl := hstep args H _ hrun
 unfold loopNOnce at hl
 cases hc : canonB H 0 && closedB H.length H && Nat.beq args.length e.ins.length && Nat.blt e.size 16000 && Nat.blt H.length 1000000 && lowB e.size e.ins && lowB e.size e.keep && lowB e.size e.outs && noOpqL args && noOpqH H && lowB H.length (namesL args) with
 | false => rw [hc] at hl; simp [denN] at hl
 | true =>
  rw [hc] at hl
  simp only [cond_true] at hl
  simp only [Bool.and_eq_true] at hc
  obtain ⟨⟨⟨⟨⟨⟨⟨⟨⟨⟨c1, c2⟩, c3⟩, c4⟩, c5⟩, c6⟩, c7⟩, c8⟩, c9⟩, c10⟩, c11⟩ := hc
  have hsz : e.size < 16000 := by rwa [Nat.blt_eq] at c4
  have hHl : H.length < 1000000 := by rwa [Nat.blt_eq] at c5
  have hins := lowB_spec _ c6
  have hkeep := lowB_spec _ c7
  have houts := lowB_spec _ c8
  have hhp : (loopSt sp e args H).hp.get = H.get := heapTr_init c1 (by omega)
  have htm : ∀ j, ((loopSt sp e args H).tmp j = .junk) ∨ (j ∈ e.keep ∧ (loopSt sp e args H).tmp j = .opq j) ∨ ∃ i : Nat, e.ins[i]? = some j ∧ ∃ v, args[i]? = some v ∧ (loopSt sp e args H).tmp j = v := by
   intro j
   have hk16 : ∀ x ∈ e.keep, x < 16000 := fun x hx => by have := hkeep x hx; omega
   have hi16 : ∀ x ∈ e.ins, x < 16000 := fun x hx => by have := hins x hx; omega
   have he : (loopSt sp e args H).tmp j = match (setPs e.ins args (keepI e.keep .lf)).get j with
     | some v => v
     | none => .junk := rfl
   rcases setPs_at e.ins args (keepI e.keep .lf) j hi16 with ⟨g1, -⟩ | ⟨i, g1, v, g2, g3⟩
   · rw [he, g1, keepI_get _ _ _ hk16]
     by_cases hj : j ∈ e.keep
     · simp [hj]
     · simp [hj, Tr.get_lf]
   · exact .inr (.inr ⟨i, g1, v, g2, by rw [he, g3]⟩)
  have hs0 : StOk (loopSt sp e args H) := by
   refine ⟨hsz, hHl, fun t ht => ?_, ?_, Nat.le_refl _⟩
   · have ht' : e.size ≤ t := ht
     rcases htm t with g | ⟨g, _⟩ | ⟨i, g, _⟩
     · exact g
     · have := hkeep t g; omega
     · have := hins t (List.mem_of_getElem? g); omega
   · intro x c hx
     rw [hhp] at hx
     exact canon_lt c1 hx
  refine ⟨n, fun ω θ Im w a Q hsize hargs hH hfr hMk hpost => ?_⟩
  have sim0 : Sim P (fun t => a.tmps.getD t undef) none (loopSt sp e args H) a w Im θ := by
   refine ⟨hs0, ⟨hsize, fun t ht => ?_, hs0.out, by rw [hhp]; exact hMk, by rw [hhp]; exact hH.om (fun x c hx => noOpqH_at c10 hx)⟩, ?_, .inl ⟨rfl, rfl⟩⟩
   · rcases htm t with g | ⟨g, g2⟩ | ⟨i, g, v, g2, g3⟩
     · rw [g]; exact .junk
     · rw [g2]; exact .opq
     · rw [g3]
       exact (hargs.at_ i v _ g2 (by simp [g])).om (noOpqL_at c9 g2)
   · intro x hx
     have hx' : H.length ≤ x := hx
     refine ⟨hfr x hx', ?_⟩
     rw [hhp]
     cases hg : H.get x with
     | none => rfl
     | some c => have := canon_lt c1 hg; omega
  refine loopN_run hκ hmix n _ hs0 hl (fun t => a.tmps.getD t undef) none Q a w Im θ sim0 (fun ex sF hsF hlater hsF2 hrdF hfin0 => ?_)
  rw [denN_toN] at hfin0
  obtain ⟨f1, f2, f3, rfl, ns, hre, rfl, rfl⟩ := finishL_inv hfin0
  have hmF : sF.m = H.length := hlater.m
  have hsF3 : sF.size = e.size := hsF2
  intro a' w' Im' θ' sim' hE hN
  have hsame : ∀ x, x < H.length → sF.hp.get x = H.get x ∨ x ∈ sF.dirty := by
   intro x hx
   have := hlater.same x hx
   rwa [hhp] at this
  have hdl : ∀ x ∈ sF.dirty, x < H.length := by
   intro x hx
   rcases hlater.low x hx with h | h
   · cases h
   · exact h
  have hext : Ext (fun x => H.length ≤ x) H.get w Im θ sF.hp.get w' Im' θ' := by
   rw [← hhp]; exact hE
  have hz : VRel P (fun t => a.tmps.getD t undef) w' Im' θ' (.tup (.int .i64 (codeEx ex) :: e.outs.map sF.tmp)) (.tuple (.int .i64 (codeEx ex) :: (e.outs.map fun t => a'.tmps.getD t undef)).toArray) := by
   have hl := lrel_map (P := P) (ω := fun t => a.tmps.getD t undef) (w := w') (Im := Im') (θ := θ') (f := sF.tmp) (g := fun t => a'.tmps.getD t undef) (l := e.outs) (fun t ht => sim'.sf.tm t (by rw [hsF3]; exact houts t ht))
   refine .tup (by simp) (fun i v u hv hu => ?_)
   cases i with
   | zero => simp at hv hu; subst hv; subst hu; exact .int
   | succ i => exact hl.at_ i v u (by simpa using hv) (by simpa using hu)
  obtain ⟨θ3, g1, g2, g3, g4⟩ := finish_gen c1 c2 hfr hmF hsame hdl hre sim'.sf.hp hext hz
  rw [← hmF] at g1 g2 g3 g4
  have g2' : LRel P (fun t => a.tmps.getD t undef) w' Im' θ3 (renL (outName ns sF.m) (e.outs.map sF.tmp)) (e.outs.map fun t => a'.tmps.getD t undef) := by
   simp only [renS, renL] at g2
   cases g2 with
   | tup p1 p2 => exact ⟨by rw [renL_eq]; simp, fun i v u hv hu => p2 (i + 1) v u (by simpa using hv) (by simpa using hu)⟩
  rw [← hmF] at hpost
  have := hpost a' w' Im' θ3 (by rw [sim'.sf.size]; exact hsF3) g1 (g2'.om (by rw [noOpqL_ren]; exact f2)) (g3.om (noOpqU_at f3 (fun x c hx => noOpqH_at c10 hx))) (fun t ht => ?_) ?_ hN
  · rw [exOf_code] at this; exact this
  · have h1 := sim'.sf.tm t (by rw [hsF3]; exact hkeep t ht)
    rw [f1 t ht] at h1
    generalize a'.tmps.getD t undef = z at h1
    cases h1
    rfl
  · obtain ⟨rs, base, m1, mb, m2, m3⟩ := sim'.sf.df
    refine ⟨rs, base, m1, mb, m2, fun r hr => ⟨(m3 r hr).1, (m3 r hr).2.1, fun y c N hy hb => ?_⟩⟩
    obtain ⟨x, c0, hx, hxb⟩ := g4 y c r N hy hb
    exact (m3 r hr).2.2 x c0 N hx hxb
end Go.Am
/- The abstract machine: a copy of a list is the list. -/
namespace Go.Am
variable {P : Program} {ω : Nat → Value}
def bndE (b : Nat) (es : List SV) : Bool := decide (es.length ≤ 9223372036854775807) && decide (es.length * b ≤ 140737488355328)
def cloneS (e b : Nat) : CSumm
 | [.psl e' es], [] => .ite (Nat.beq e e' && bndE b es) (.ret (.psl e es) []) .fail
 | _, _ => .fail
theorem known_clone (hn : noNum P) (hmix : P.follows .mixedOrders = true) {f : FuncId} {fn : Func} (hf : P.funcs[f]? = some fn) (hb : fn.body.isNone = false) {e b sz : Nat} {body : CSumm} (hv : ValidC P f body)
  (h1 : crun (body [.nils] []) = some (.nils, [])) (h2 : ∀ es, bndE b es = true → crun (body [.pnn e es] []) = some (.qs 0 sz 0 (0 + es.length), [(0, some (.seq e ([] ++ es)))])) : Known P f (cloneS e b) := by
 refine ⟨⟨fn, hf, noNum_at hn hf, hb⟩, ?_⟩
 intro args H v ups hrun hcanon ω θ Im w us hl hH hfr
 unfold cloneS at hrun
 split at hrun
 case h_2 => simp [crun] at hrun
 rename_i e' es
 cases hc : Nat.beq e e' && bndE b es with
 | false => rw [hc] at hrun; simp [crun] at hrun
 | true =>
  rw [hc] at hrun
  simp only [if_true, crun, Option.some.injEq, Prod.mk.injEq] at hrun
  obtain ⟨rfl, rfl⟩ := hrun
  simp only [Bool.and_eq_true] at hc
  have : e = e' := Nat.eq_of_beq_eq_true hc.1
  subst this
  match us, hl with
  | [u], hl =>
   have hu := hl.at_ 0 _ u rfl rfl
   have one : ∀ {v : SV}, VRel P ω w Im θ v u → LRel P ω w Im θ [v] [u] := fun hv => ⟨rfl, fun i x y hx hy => by
    cases i with
    | zero => simp at hx hy; subst hx; subst hy; exact hv
    | succ i => simp at hx⟩
   have hu2 := hu
   cases hu with
   | psl uf g1 g0 g2 g3 g4 =>
    rename_i p n cap
    cases p with
    | none =>
     have hc0 : cap = 0 := g0.2 rfl
     subst hc0
     have hn0 : n = 0 := by omega
     subst hn0
     have he : es = [] := List.eq_nil_of_length_eq_zero g1
     subst he
     refine (hv [.nils] [] _ _ h1 hcanon ω θ Im w _ (one .nils) hH hfr).mono ?_
     rintro o w' ⟨z, θ', Im', rfl, hE, hz, hH'⟩
     refine ⟨z, θ', Im', rfl, hE, ?_, hH'⟩
     cases hz
     exact .psl (fun _ => undef) rfl ⟨Nat.le_refl _, by simp⟩ (fun v hv => by cases hv) (fun i v hv => by simp at hv) (fun hn => absurd rfl hn)
    | some a =>
     refine (hv [.pnn e es] [] _ _ (h2 es hc.2) hcanon ω θ Im w _ (one (.pnn hu2)) hH hfr).mono ?_
     rintro o w' ⟨z, θ', Im', rfl, hE, hz, hH'⟩
     have hget : updF [(0, some (.seq e ([] ++ es)))] (HpL.get []) 0 = some (.seq e es) := by simp [updF]
     have hp := seq_psl hH' hget (by simp) hz
     obtain ⟨hE2, hH2⟩ := drop_step hH' (new := fun x => ([] : HpL).length ≤ x) [0]
     have hfun : updF (drops [0]) (updF [(0, some (.seq e ([] ++ es)))] (HpL.get [])) = updF [] (HpL.get []) := by
      funext x
      by_cases hx : x = 0
      · subst hx; simp [updF, drops, HpL.get]
      · simp [updF, drops, HpL.get, hx]
     rw [hfun] at hE2 hH2
     exact ⟨z, θ', _, rfl, hE.trans hE2, hp, hH2⟩
theorem known_own (hn : noNum P) (hmix : P.follows .mixedOrders = true) {f : FuncId} {fn : Func} (hf : P.funcs[f]? = some fn) (hb : fn.body.isNone = false) {e b sz : Nat} {body : CSumm} (hv : ValidC P f body)
  (h2 : ∀ es, bndE b es = true → crun (body [.psl e es] []) = some (.qs 0 sz 0 (0 + es.length), [(0, some (.seq e ([] ++ es)))])) : Known P f (cloneS e b) := by
 refine ⟨⟨fn, hf, noNum_at hn hf, hb⟩, ?_⟩
 intro args H v ups hrun hcanon ω θ Im w us hl hH hfr
 unfold cloneS at hrun
 split at hrun
 case h_2 => simp [crun] at hrun
 rename_i e' es
 cases hc : Nat.beq e e' && bndE b es with
 | false => rw [hc] at hrun; simp [crun] at hrun
 | true =>
  rw [hc] at hrun
  simp only [if_true, crun, Option.some.injEq, Prod.mk.injEq] at hrun
  obtain ⟨rfl, rfl⟩ := hrun
  simp only [Bool.and_eq_true] at hc
  have : e = e' := Nat.eq_of_beq_eq_true hc.1
  subst this
  refine (hv [.psl e es] [] _ _ (h2 es hc.2) hcanon ω θ Im w _ hl hH hfr).mono ?_
  rintro o w' ⟨z, θ', Im', rfl, hE, hz, hH'⟩
  have hget : updF [(0, some (.seq e ([] ++ es)))] (HpL.get []) 0 = some (.seq e es) := by simp [updF]
  have hp := seq_psl hH' hget (by simp) hz
  obtain ⟨hE2, hH2⟩ := drop_step hH' (new := fun x => ([] : HpL).length ≤ x) [0]
  have hfun : updF (drops [0]) (updF [(0, some (.seq e ([] ++ es)))] (HpL.get [])) = updF [] (HpL.get []) := by
   funext x
   by_cases hx : x = 0
   · subst hx; simp [updF, drops, HpL.get]
   · simp [updF, drops, HpL.get, hx]
  rw [hfun] at hE2 hH2
  exact ⟨z, θ', _, rfl, hE.trans hE2, hp, hH2⟩
end Go.Am
/- The abstract machine: nil lists handed in, taken as lists that have grown to nothing (of any element). -/
namespace Go.Am
variable {P : Program}
def incN : List (Option (Nat × Nat)) → List SV → HpL → HpL → List SV × HpL × HpL
 | some (e, sz) :: fs, .nils :: as, H, pre =>
  let r := incN fs as (H ++ [(H.length, .seq e [])]) (pre ++ [(H.length, .seq e [])])
  (.qs H.length sz 0 0 :: r.1, r.2)
 | _ :: fs, a :: as, H, pre => let r := incN fs as H pre; (a :: r.1, r.2)
 | [], as, H, pre => (as, H, pre)
 | _, [], H, pre => ([], H, pre)
def inN (fs : List (Option (Nat × Nat))) (s : CSumm) : CSumm := fun args H =>
 let r := incN fs args H []
 addU r.2.2 (s r.1 r.2.1)
end Go.Am
/- The abstract machine: a list that is handed in, looked at as one that is known by content, where nothing of it is kept. -/
namespace Go.Am
variable {P : Program}
mutual
def pureV : SV → Bool
 | .junk | .bool _ | .int _ _ | .str _ | .nils | .nilp | .nilm | .nilf | .nili => true
 | .agg cs => pureL cs
 | .tup vs => pureL vs
 | _ => false
def pureL : List SV → Bool
 | [] => true
 | v :: vs => pureV v && pureL vs
end
theorem pureL_at : ∀ {vs : List SV}, pureL vs = true → ∀ {i : Nat} {v : SV}, vs[i]? = some v → pureV v = true
 | [], _, i, v, h => by simp at h
 | w :: vs, hn, i, v, h => by
  simp only [pureL, Bool.and_eq_true] at hn
  cases i with
  | zero => simp at h; subst h; exact hn.1
  | succ i => exact pureL_at hn.2 (by simpa using h)
theorem pure_rel {ω ω' : Nat → Value} {w w' : World} {Im Im' : Nat → Prop} {θ θ' : Th} {v : SV} {u : Value} (h : VRel P ω w Im θ v u) (hn : pureV v = true) : VRel P ω' w' Im' θ' v u := by
 induction h with
 | junk => exact .junk
 | bool => exact .bool
 | int => exact .int
 | str h => exact .str h
 | nilp => exact .nilp
 | nils => exact .nils
 | nilm => exact .nilm
 | nilf => exact .nilf
 | nili => exact .nili
 | agg h1 _ ih => exact .agg h1 (fun i v u a b => ih i v u a b (pureL_at (by simpa [pureV] using hn) a))
 | tup h1 _ ih => exact .tup h1 (fun i v u a b => ih i v u a b (pureL_at (by simpa [pureV] using hn) a))
 | _ => simp [pureV] at hn
theorem view_psl {ω : Nat → Value} {w : World} {Im : Nat → Prop} {θ : Th} {h : HpF} (hr : HRel P ω w Im θ h) {x e sz l n : Nat} {es : List SV} (hx : h x = some (.seq e es)) (hsz : sz = P.cellsOf e) (hl : l + n ≤ es.length) {u : Value} (hv : VRel P ω w Im θ (.qs x sz l n) u) {ω' : Nat → Value} {θ' : Th} :
  VRel P ω' w (frozenBy Im θ h [x]) θ' (.psl e ((es.drop l).take n)) u := by
 have hc := hr.at_ x _ hx
 have hlen : ((es.drop l).take n).length = n := by rw [List.length_take, List.length_drop]; omega
 cases hv with
 | qsnil h0 =>
  subst h0
  rw [List.take_zero]
  exact .psl (fun _ => undef) rfl ⟨Nat.le_refl _, by simp⟩ (fun v hv => by cases hv) (fun i v hv => by simp at hv) (fun hn => absurd rfl hn)
 | qs hθ h1 h2 =>
  rename_i b N cap
  rcases hc with ⟨_, h3⟩ | ⟨b', N', cs, T, fr, us, h3, h4, h5, h6, h7, h8, h9⟩
  · rw [h3] at hθ; cases hθ
  · rw [hθ] at h3
    simp only [Option.some.injEq, Prod.mk.injEq] at h3
    obtain ⟨rfl, rfl⟩ := h3
    have hat : ∀ i v, ((es.drop l).take n)[i]? = some v → es[l + i]? = some v := fun i v hv => by
     rw [List.getElem?_take] at hv
     by_cases hi : i < n
     · rw [if_pos hi, List.getElem?_drop] at hv; exact hv
     · rw [if_neg hi] at hv; cases hv
    refine .psl (fun i => us (l + i)) hlen ⟨h2, by simp⟩ (fun v hv => h8 v (List.mem_of_mem_drop (List.mem_of_mem_take hv))) (fun i v hv => ?_) (fun hne => ⟨b, l * sz, rfl, .inr ⟨x, by simp, _, _, hx, hθ⟩, fun i hi => ?_⟩)
    · exact ((h9 (l + i) v (hat i v hv)).1.mono (frozenBy_up w) (fun _ _ h => h))
    · have hi' : l + i < es.length := by omega
      obtain ⟨g1, g2, g3⟩ := h9 (l + i) es[l + i] (by simp [hi'])
      refine ⟨g2, fun d c hd => ?_⟩
      have := g3 d c hd
      simp only [World.cell?, h4, hsz]
      rw [Nat.add_mul] at this
      simpa using this
end Go.Am
/- The abstract machine: a list that is handed in, looked at as one that is known by content, beside others that are. -/
namespace Go.Am
variable {P : Program}
mutual
def slimV : SV → Bool
 | .junk | .bool _ | .int _ _ | .str _ | .nils | .nilp | .nilm | .nilf | .nili | .psl _ _ | .emp => true
 | .agg cs => slimL cs
 | .tup vs => slimL vs
 | _ => false
def slimL : List SV → Bool
 | [] => true
 | v :: vs => slimV v && slimL vs
end
theorem slimL_at : ∀ {vs : List SV}, slimL vs = true → ∀ {i : Nat} {v : SV}, vs[i]? = some v → slimV v = true
 | [], _, i, v, h => by simp at h
 | w :: vs, hn, i, v, h => by
  simp only [slimL, Bool.and_eq_true] at hn
  cases i with
  | zero => simp at h; subst h; exact hn.1
  | succ i => exact slimL_at hn.2 (by simpa using h)
theorem slim_rel {ω ω' : Nat → Value} {w : World} {Im Im' : Nat → Prop} {θ θ' : Th} {v : SV} {u : Value} (h : VRel P ω w Im θ v u) (hn : slimV v = true) (hI : ∀ b, Im b → Im' b) : VRel P ω' w Im' θ' v u := by
 induction h with
 | junk => exact .junk
 | bool => exact .bool
 | int => exact .int
 | str h => exact .str h
 | nilp => exact .nilp
 | nils => exact .nils
 | nilm => exact .nilm
 | nilf => exact .nilf
 | nili => exact .nili
 | emp => exact .emp
 | psl us h1 h0 h2 h3 h4 _ =>
  refine .psl us h1 h0 h2 (fun i v hv => (h3 i v hv).mono (fun b hb => ⟨hI b hb, rfl⟩) (fun _ _ h => h)) (fun hne => ?_)
  obtain ⟨a, off, hp, ha, hc⟩ := h4 hne
  exact ⟨a, off, hp, hI a ha, hc⟩
 | agg h1 _ ih => exact .agg h1 (fun i v u a b => ih i v u a b (slimL_at (by simpa [slimV] using hn) a))
 | tup h1 _ ih => exact .tup h1 (fun i v u a b => ih i v u a b (slimL_at (by simpa [slimV] using hn) a))
 | _ => simp [slimV] at hn
theorem known_view2 {f : FuncId} {s s' : CSumm} (h : Known P f s) (hs : ∀ args H v ups, crun (s' args H) = some (v, ups) → ∃ (pre : List SV) (e : Nat) (es : List SV) (l n sz : Nat), args = pre ++ [.qs 0 sz l n] ∧ H = [(0, .seq e es)] ∧ sz = P.cellsOf e ∧ l + n ≤ es.length ∧
      slimL pre = true ∧ pureV v = true ∧ (∀ x, updF ups H.get x = H.get x) ∧ crun (s (pre ++ [.psl e ((es.drop l).take n)]) []) = some (v, [])) : Known P f s' := by
 refine ⟨h.fn, ?_⟩
 intro args H v ups hr hc ω θ Im w us hl hH hfr
 obtain ⟨pre, e, es, l, n, sz, rfl, rfl, hsz, hle, hp, hv, hu, hrun⟩ := hs args H v ups hr
 have hx : HpL.get [(0, Chunk.seq e es)] 0 = some (.seq e es) := rfl
 have hget : ∀ x c, HpL.get [(0, Chunk.seq e es)] x = some c → x = 0 ∧ c = .seq e es := fun x c hxc => by
  simp only [HpL.get] at hxc
  cases hb : Nat.beq 0 x with
  | true => rw [hb] at hxc; exact ⟨(Nat.eq_of_beq_eq_true hb).symm, by cases hxc; rfl⟩
  | false => rw [hb] at hxc; cases hxc
 let Im1 := frozenBy Im θ (HpL.get [(0, Chunk.seq e es)]) [0]
 have hIm1 : ∀ b, Im1 b → Im b ∨ ∃ N, θ 0 = some (b, N) := by
  rintro b (hb | ⟨y, hy, c, N, h1, h2⟩)
  · exact .inl hb
  · rw [List.mem_singleton] at hy; subst hy; exact .inr ⟨N, h2⟩
 have hsz1 : ∀ b, Im1 b → b < w.heap.size := fun b hb => by
  rcases hIm1 b hb with h1 | ⟨N, h1⟩
  · exact hH.im b h1
  · exact (hH.own 0 _ b N hx h1).2
 have hl2 : LRel P ω w Im1 noTh (pre ++ [.psl e ((es.drop l).take n)]) us := by
  refine ⟨by rw [← hl.len]; simp, fun i v' u hv' hu' => ?_⟩
  by_cases hi : i < pre.length
  · rw [List.getElem?_append_left hi] at hv'
    exact slim_rel (hl.at_ i v' u (by rw [List.getElem?_append_left hi]; exact hv') hu') (slimL_at hp hv') (fun b hb => .inl hb)
  · rw [List.getElem?_append_right (by omega)] at hv'
    have hi0 : i - pre.length = 0 := by
     cases hz : i - pre.length with
     | zero => rfl
     | succ j => rw [hz] at hv'; simp at hv'
    rw [hi0] at hv'
    simp at hv'
    subst hv'
    exact view_psl hH hx hsz hle (hl.at_ i _ u (by rw [List.getElem?_append_right (by omega), hi0]; rfl) hu')
 have hH2 : HRel P ω w Im1 noTh (HpL.get []) := ⟨fun x c hx => by simp [HpL.get] at hx, fun x y c c' b N N' hx => by simp [HpL.get] at hx, fun x c b N hx => by simp [HpL.get] at hx, hsz1, hH.gl.mono (frozenBy_up w)⟩
 refine (h.ok _ [] v [] hrun (fun i p hp => by simp at hp) ω noTh Im1 w us hl2 hH2 (fun x _ => rfl)).mono ?_
 rintro o w' ⟨u, θ', Im', rfl, hE, hvu, hH'⟩
 let Im3 : Nat → Prop := fun b => Im' b ∧ ∀ N, θ 0 ≠ some (b, N)
 have hold : ∀ b, b < w.heap.size → w'.heap[b]? = w.heap[b]? := fun b hb => hE.keep b hb (fun x c N hx => by simp [HpL.get] at hx)
 have hup : ∀ b, Im b → Im3 b := fun b hb => ⟨hE.imUp b (.inl hb), fun N hN => (hH.own 0 _ b N hx hN).1 hb⟩
 have hmono : ∀ b, Im b → Im3 b ∧ w'.heap[b]? = w.heap[b]? := fun b hb => ⟨hup b hb, hold b (hH.im b hb)⟩
 have hu' : updF ups (HpL.get [(0, Chunk.seq e es)]) = HpL.get [(0, Chunk.seq e es)] := funext hu
 refine ⟨u, θ, Im3, rfl, ?_, pure_rel hvu hv, ?_⟩
 · rw [hu']
   refine { thOld := fun _ _ => rfl, thUp := fun _ _ h => h, imUp := hup, size := hE.size, keep := fun b hb _ => hold b hb, imNew := fun b hb => ?_, ownNew := fun x c b N h1 h2 => .inl ⟨x, c, N, h1, h2⟩, os := hE.os, output := hE.output, tape := hE.tape }
   rcases hE.imNew b hb.1 with h1 | ⟨x, c, N, h1, _⟩ | h1
   · rcases hIm1 b h1 with h2 | ⟨N, h2⟩
     · exact .inl h2
     · exact absurd h2 (hb.2 N)
   · simp [HpL.get] at h1
   · exact .inr (.inr h1)
 · rw [hu']
   refine ⟨fun x c hxc => ?_, hH.inj, fun x c b N hxc hb => ?_, fun b hb => ?_, hH.gl.mono hmono⟩
   · obtain ⟨rfl, rfl⟩ := hget x c hxc
     rcases hH.at_ 0 _ hx with h1 | ⟨b', N', cs, T, fr, us', h3, h4, h5, h6, h7, h8, h9⟩
     · exact .inl h1
     · refine .inr ⟨b', N', cs, T, fr, us', h3, by rw [hold b' (hH.own 0 _ b' N' hx h3).2]; exact h4, h5, h6, h7, h8, fun i v' hv' => ?_⟩
       obtain ⟨g1, g2, g3⟩ := h9 i v' hv'
       exact ⟨g1.mono hmono (fun _ _ h => h), g2, g3⟩
   · obtain ⟨rfl, rfl⟩ := hget x c hxc
     exact ⟨fun hi => hi.2 N hb, Nat.lt_of_lt_of_le (hH.own 0 _ b N hx hb).2 hE.size⟩
   · rcases hE.imNew b hb.1 with h1 | ⟨x, c, N, h1, _⟩ | h1
     · exact Nat.lt_of_lt_of_le (hsz1 b h1) hE.size
     · simp [HpL.get] at h1
     · exact hH'.im b hb.1
end Go.Am
