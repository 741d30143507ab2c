/- The abstract machine: a region, in whichever order. -/
import Derived.Test.YtkbbiaobohlogaaMachine5
import Derived.Orders
import Derived.OrdersIn
import Derived.RangeFuncRecord
import Derived.RangeFuncLeaves
import Derived.LoopNIn
set_option linter.unusedVariables false
set_option linter.unusedSimpArgs false
namespace Go.Am
variable {P : Program} {ω : Nat → Value}
def evT (T : Nat → SV) : Operand → SV
 | .tmp t => T t
 | .const v => ofValue v
 | .func f => .fn (.func f) [] []
 | .global g => .gp g 0
def updT (T : Nat → SV) (dst : Option Nat) (v : SV) : Nat → SV :=
 match dst with
 | none => T
 | some d => fun t => if t = d then v else T t
def Mk (w : World) (Im : Nat → Prop) (θ : Th) (h : HpF) (ds : List Deferred) : Prop :=
 ∃ (rs : List Nat) (base : List Deferred), ds = rs.map (fun r => { target := .collected r, args := #[] }) ++ base ∧ (∀ d ∈ base, ∀ r, d ≠ { target := .collected r, args := #[] }) ∧ rs.Nodup ∧
  ∀ r ∈ rs, w.heap[r]? = some (.deferred (some [])) ∧ ¬ Im r ∧ ∀ x c N, h x = some c → θ x ≠ some (r, N)
theorem Mk.nil {w : World} {Im : Nat → Prop} {θ : Th} {h : HpF} : Mk w Im θ h [] := ⟨[], [], rfl, fun d hd => (by cases hd), List.nodup_nil, fun r hr => by cases hr⟩
theorem Mk.step {new : Nat → Prop} {h h' : HpF} {w w' : World} {Im Im' : Nat → Prop} {θ θ' : Th} {ds : List Deferred} (m : Mk w Im θ h ds) (he : Ext new h w Im θ h' w' Im' θ') : Mk w' Im' θ' h' ds := by
 obtain ⟨rs, base, h1, hb, h2, h3⟩ := m
 refine ⟨rs, base, h1, hb, h2, fun r hr => ?_⟩
 obtain ⟨a1, a2, a3⟩ := h3 r hr
 have hlt := heap_lt a1
 refine ⟨by rw [he.keep r hlt a3]; exact a1, fun hi => ?_, fun x c N hx hθ => ?_⟩
 · rcases he.imNew r hi with h4 | ⟨x, c, N, h4, h5⟩ | h4
   · exact a2 h4
   · exact a3 x c N h4 h5
   · omega
 · rcases he.ownNew x c r N hx hθ with ⟨y, c', N', h4, h5⟩ | h4
   · exact a3 y c' N' h4 h5
   · omega
structure SimF (P : Program) (ω : Nat → Value) (n : Nat) (T : Nat → SV) (h : HpF) (a : Act) (w : World) (Im : Nat → Prop) (θ : Th) : Prop where
 size : a.tmps.size = n
 tm : ∀ t, t < n → VRel P ω w Im θ (T t) (a.tmps.getD t undef)
 out : ∀ t, n ≤ t → T t = .junk
 df : Mk w Im θ h a.defers
 hp : HRel P ω w Im θ h
theorem SimF.eval {n : Nat} {T : Nat → SV} {h : HpF} {a : Act} {w : World} {Im : Nat → Prop} {θ : Th} (s : SimF P ω n T h a w Im θ) (x : Operand) : VRel P ω w Im θ (evT T x) (a.eval x) := by
 cases x with
 | tmp t =>
  simp only [evT, Act.eval]
  rcases Nat.lt_or_ge t n with h | h
  · exact s.tm t h
  · rw [s.out t h]; exact .junk
 | const v => exact ofValue_rel w Im θ v
 | global g => exact .gp
 | func f => exact .fn rfl rfl (fun i v u hv _ => by simp at hv) (fun i v u hv _ => by simp at hv)
def dstN (n : Nat) : Option Nat → Prop
 | none => True
 | some d => d < n
theorem put_size (a : Act) (dst : Option Nat) (v : Value) : (a.put dst v).tmps.size = a.tmps.size := by cases dst <;> simp [Act.put]
theorem put_defers (a : Act) (dst : Option Nat) (v : Value) : (a.put dst v).defers = a.defers := by cases dst <;> rfl
theorem SimF.step {n : Nat} {T : Nat → SV} {h h' : HpF} {a : Act} {w w' : World} {Im Im' : Nat → Prop} {θ θ' : Th} {new : Nat → Prop} (s : SimF P ω n T h a w Im θ) {dst : Option Nat} (hd : dstN n dst) {r : SV} {v : Value}
  (he : Ext new h w Im θ h' w' Im' θ') (hv : VRel P ω w' Im' θ' r v) (hr : HRel P ω w' Im' θ' h') : SimF P ω n (updT T dst r) h' (a.put dst v) w' Im' θ' := by
 refine ⟨by rw [put_size, s.size], fun t ht => ?_, fun t ht => ?_, by rw [put_defers]; exact s.df.step he, hr⟩
 · cases dst with
   | none => exact he.val s.hp (s.tm t ht)
   | some d =>
    have hd' : d < a.tmps.size := by rw [s.size]; exact hd
    by_cases htd : t = d
    · subst htd
      simp [updT, Act.put, Array.getD, hd', hv]
    · have := he.val s.hp (s.tm t ht)
      have ht' : t < a.tmps.size := by rw [s.size]; exact ht
      simp only [updT, if_neg htd, Act.put]
      have e : (a.tmps.setIfInBounds d v).getD t undef = a.tmps.getD t undef := by
       simp [Array.getD, ht', Ne.symm htd]
      rw [e]; exact this
 · cases dst with
   | none => exact s.out t ht
   | some d =>
    have : t ≠ d := by intro e; subst e; simp only [dstN] at hd; omega
    simp only [updT, if_neg this]
    exact s.out t ht
theorem SimF.skip {n : Nat} {T : Nat → SV} {h : HpF} {a : Act} {w : World} {Im : Nat → Prop} {θ : Th} (s : SimF P ω n T h a w Im θ) {dst : Option Nat} (hd : dstN n dst) : SimF P ω n (updT T dst (.tup [])) h (a.put dst undef) w Im θ :=
 s.step hd (Ext.refl (fun _ => False)) (.tup rfl (fun i v u hv _ => by simp at hv)) s.hp
def wantedT (all : List Oper) (n : Nat) (T : Nat → SV) (o : Oper) : Option Bool :=
 match o.guard with
 | none => some true
 | some (j, want) =>
  match all[j]? with
  | some oj => match oj.dst with
   | some d => if d < n then match T d with
    | .bool b => some (b == want)
    | .tup [] => some false
    | _ => none
    else none
   | none => none
  | none => none
theorem wanted_eq {all : List Oper} {n : Nat} {T : Nat → SV} {h : HpF} {a : Act} {w : World} {Im : Nat → Prop} {θ : Th} (s : SimF P ω n T h a w Im θ) {o : Oper} {b : Bool} (hw : wantedT all n T o = some b) :
  Region.wanted o (yielded all.toArray a.tmps) = b := by
 unfold wantedT at hw
 unfold Region.wanted
 cases hg : o.guard with
 | none => simp [hg] at hw; simp [hw]
 | some p =>
  obtain ⟨j, want⟩ := p
  simp only [hg] at hw
  cases hj : all[j]? with
  | none => simp [hj] at hw
  | some oj =>
   simp only [hj] at hw
   cases hd : oj.dst with
   | none => simp [hd] at hw
   | some d =>
    simp only [hd] at hw
    split at hw
    · rename_i hdn
      have hv := s.tm d hdn
      split at hw
      · rename_i c hc
        rw [hc] at hv
        have hlt : d < a.tmps.size := by rw [s.size]; exact hdn
        generalize hu : a.tmps.getD d undef = u at hv
        cases hv
        have hu' : a.tmps[d]? = some (.bool c) := by
         simp [Array.getD, hlt] at hu
         simp [hlt, hu]
        simp only [yielded, List.getElem?_toArray, hj, Option.bind_some, hd, hu']
        simp only [Option.some.injEq] at hw
        rw [← hw]
        cases c <;> cases want <;> rfl
      · rename_i hc
        rw [hc] at hv
        have hlt : d < a.tmps.size := by rw [s.size]; exact hdn
        generalize hu : a.tmps.getD d undef = u at hv
        cases hv with
        | tup h1 h2 =>
         rename_i us
         have hu' : a.tmps[d]? = some (.tuple us) := by
          simp [Array.getD, hlt] at hu
          simp [hlt, hu]
         simp only [yielded, List.getElem?_toArray, hj, Option.bind_some, hd, hu']
         simp only [Option.some.injEq] at hw
         rw [← hw]
         rfl
      · cases hw
    · cases hw
structure Rec where
 ex : Bool
 r : SV
 ups : List (Nat × Option Chunk)
 nx0 : Nat
 nx1 : Nat
 rs : List Nat
inductive Txt (P : Program) (κ : Nat → Option CSumm) (all : List Oper) (n : Nat) : List Oper → (Nat → SV) → HpF → Nat → List Rec → (Nat → SV) → HpF → Nat → Prop
 | nil {T : Nat → SV} {h : HpF} {nx : Nat} : Txt P κ all n [] T h nx [] T h nx
 | run {o : Oper} {os : List Oper} {T T' : Nat → SV} {h h' : HpF} {nx nx1 nx' : Nat} {r : SV} {ups : List (Nat × Option Chunk)} {rs : List Nat} {recs : List Rec} :
   dstN n o.dst → wantedT all n T o = some true → mrun h (opM P κ o (evT T) nx) = some (r, ups, nx1, rs) → Txt P κ all n os (updT T o.dst r) (updF ups h) nx1 recs T' h' nx' →
   Txt P κ all n (o :: os) T h nx (⟨true, r, ups, nx, nx1, rs⟩ :: recs) T' h' nx'
 | skip {o : Oper} {os : List Oper} {T T' : Nat → SV} {h h' : HpF} {nx nx' : Nat} {recs : List Rec} :
   dstN n o.dst → wantedT all n T o = some false → Txt P κ all n os (updT T o.dst (.tup [])) h nx recs T' h' nx' →
   Txt P κ all n (o :: os) T h nx (⟨false, .tup [], [], nx, nx, []⟩ :: recs) T' h' nx'
theorem opM0_congr {κ : Nat → Option CSumm} {o : Oper} {ev ev' : Operand → SV} (h : ∀ x ∈ o.op.operands, ev x = ev' x) (nx : Nat) : opM0 P κ o ev nx = opM0 P κ o ev' nx := by
 obtain ⟨dst, op, type, pos, after, guard⟩ := o
 have lst : ∀ (l : Array Operand), (∀ x ∈ l, ev x = ev' x) → l.toList.map ev = l.toList.map ev' := fun l hl => List.map_congr_left fun x hx => hl x (by simpa using hx)
 cases op <;> simp only [Op.operands] at h <;> simp only [opM0]
 case move x => rw [h x (by simp)]
 case assign x => rw [h x (by simp)]
 case pick c x y => rw [h c (by simp), h x (by simp), h y (by simp)]
 case box t x => rw [h x (by simp)]
 case build t ps =>
  have : (ps.toList.map fun p => (p.1, ev p.2)) = ps.toList.map fun p => (p.1, ev' p.2) := List.map_congr_left fun p hp => by
   rw [h p.2 (by simp; exact ⟨p.1, by simpa using hp⟩)]
  rw [this]
 case load t x => rw [h x (by simp)]
 case store t x v => rw [h x (by simp), h v (by simp)]
 case nilCheck x => rw [h x (by simp)]
 case binOp op t x y yt => rw [h x (by simp), h y (by simp)]
 case unOp op t x => rw [h x (by simp)]
 case convert s d x => rw [h x (by simp)]
 case makeFunc f as bs =>
  rw [lst as (fun x hx => h x (by simp [hx])), lst bs (fun x hx => h x (by simp [hx]))]
 case fieldAddr t x f => rw [h x (by simp)]
 case field t x f => rw [h x (by simp)]
 case extract x i => rw [h x (by simp)]
 case buildSlice t n ps =>
  have : (ps.toList.map fun p => (p.1, ev p.2)) = ps.toList.map fun p => (p.1, ev' p.2) := List.map_congr_left fun p hp => by
   rw [h p.2 (by simp; exact ⟨p.1, by simpa using hp⟩)]
  rw [this]
 case makeSlice t l c => rw [h l (by simp), h c (by simp)]
 case slice t x lo hi mx =>
  have o : ∀ (l : Option Operand), (∀ y, l = some y → ev y = ev' y) → l.map ev = l.map ev' := fun l hl => by cases l with
   | none => rfl
   | some y => simp [hl y rfl]
  rw [h x (by simp), o lo (fun y e => h y (by simp [e])), o hi (fun y e => h y (by simp [e])), o mx (fun y e => h y (by simp [e]))]
 case indexAddr t x ix => rw [h x (by simp), h ix (by simp)]
 case index t x ix => rw [h x (by simp), h ix (by simp)]
 case call c =>
  cases hc : c.callee with
  | value f =>
   simp only []
   rw [h f (by simp [Call.operands, hc]), lst c.args (fun x hx => h x (by simp [Call.operands, hx]))]
  | invoke r m =>
   simp only []
   rw [h r (by simp [Call.operands, hc]), lst c.args (fun x hx => h x (by simp [Call.operands, hx]))]
  | builtin b =>
   simp only []
   rw [lst c.args (fun x hx => h x (by simp [Call.operands, hx]))]
theorem opM_congr {κ : Nat → Option CSumm} {o : Oper} {ev ev' : Operand → SV} (h : ∀ x ∈ o.op.operands, ev x = ev' x) (nx : Nat) : opM P κ o ev nx = opM P κ o ev' nx := by
 have e : o.op.operands.toList.map ev = o.op.operands.toList.map ev' := List.map_congr_left fun x hx => h x (by simpa using hx)
 unfold opM
 rw [opM0_congr h nx, e]
theorem mrun_congr {h h' : HpF} {r : SV} {ups : List (Nat × Option Chunk)} {nx : Nat} : ∀ (m : OpM) (rs : List Nat), mrun h m = some (r, ups, nx, rs) → (∀ x ∈ rs, h' x = h x) → mrun h' m = some (r, ups, nx, rs)
 | .done _ _ _, rs, hm, _ => by simpa [mrun] using hm
 | .get x f, rs, hm, hh => by
  simp only [mrun] at hm ⊢
  cases hx : h x with
  | none => simp [hx] at hm
  | some c =>
   simp only [hx] at hm
   cases hr : mrun h (f c) with
   | none => simp [hr] at hm
   | some q =>
    obtain ⟨r0, u0, n0, rs0⟩ := q
    simp only [hr, Option.some.injEq, Prod.mk.injEq] at hm
    obtain ⟨rfl, rfl, rfl, rfl⟩ := hm
    rw [hh x (by simp), hx]
    simp only []
    rw [mrun_congr (f c) rs0 hr (fun y hy => hh y (by simp [hy]))]
 | .ite b t e, rs, hm, hh => by
  simp only [mrun] at hm ⊢
  cases b
  · simp only [Bool.false_eq_true, if_false] at hm ⊢; exact mrun_congr e rs hm hh
  · simp only [if_true] at hm ⊢; exact mrun_congr t rs hm hh
 | .fail, rs, hm, _ => by simp [mrun] at hm
theorem mrun_reads {h : HpF} {r : SV} {ups : List (Nat × Option Chunk)} {nx : Nat} : ∀ (m : OpM) (rs : List Nat), mrun h m = some (r, ups, nx, rs) → ∀ x ∈ rs, ∃ c, h x = some c
 | .done _ _ _, rs, hm, x, hx => by
  simp only [mrun, Option.some.injEq, Prod.mk.injEq] at hm
  rw [← hm.2.2.2] at hx; cases hx
 | .get y f, rs, hm, x, hx => by
  simp only [mrun] at hm
  cases hy : h y with
  | none => simp [hy] at hm
  | some c =>
   simp only [hy] at hm
   cases hr : mrun h (f c) with
   | none => simp [hr] at hm
   | some q =>
    obtain ⟨r0, u0, n0, rs0⟩ := q
    simp only [hr, Option.some.injEq, Prod.mk.injEq] at hm
    obtain ⟨rfl, rfl, rfl, rfl⟩ := hm
    rcases List.mem_cons.1 hx with rfl | hx
    · exact ⟨c, hy⟩
    · exact mrun_reads (f c) rs0 hr x hx
 | .ite b t e, rs, hm, x, hx => by
  simp only [mrun] at hm
  cases b
  · simp only [Bool.false_eq_true, if_false] at hm; exact mrun_reads e rs hm x hx
  · simp only [if_true] at hm; exact mrun_reads t rs hm x hx
 | .fail, rs, hm, _, _ => by simp [mrun] at hm
def Quiet (m : OpM) (nx : Nat) : Prop := ∀ (h : HpF) r ups nx' rs, mrun h m = some (r, ups, nx', rs) → ups = [] ∧ nx' = nx
theorem Quiet.done (r : SV) (nx : Nat) : Quiet (.done r [] nx) nx := fun h r' ups nx' rs hm => by
 obtain ⟨_, rfl, rfl, _⟩ := mrun_done hm; exact ⟨rfl, rfl⟩
theorem Quiet.fail (nx : Nat) : Quiet .fail nx := fun h r' ups nx' rs hm => by simp [mrun] at hm
theorem Quiet.ite {b : Bool} {t e : OpM} {nx : Nat} (h1 : Quiet t nx) (h2 : Quiet e nx) : Quiet (.ite b t e) nx := fun h r ups nx' rs hm => by
 simp only [mrun] at hm
 split at hm
 · exact h1 h r ups nx' rs hm
 · exact h2 h r ups nx' rs hm
theorem quiet_intBin (op : BinOp) (k : IntKind) (a b : Int) (m : OpM) (nx : Nat) : Quiet (intBin op k a b m nx) nx := by
 cases op <;> simp only [intBin] <;> first
  | exact Quiet.done _ _
  | exact Quiet.fail _
  | exact Quiet.ite (Quiet.fail _) (Quiet.done _ _)
theorem quiet_shift (op : BinOp) (k : IntKind) (a b : Int) (nx : Nat) : Quiet (shiftS op k a b nx) nx := by
 unfold shiftS
 cases op <;> simp only [] <;> first
  | exact Quiet.fail _
  | exact Quiet.ite (Quiet.fail _) (Quiet.done _ _)
theorem quiet_str (op : BinOp) (a b : List UInt8) (nx : Nat) : Quiet (strBin op a b nx) nx := by
 unfold strBin
 cases op <;> simp only [] <;> first
  | exact Quiet.done _ _
  | exact Quiet.fail _
  | exact Quiet.ite (Quiet.done _ _) (Quiet.fail _)
theorem quiet_bin (op : BinOp) (t : TypeId) (x y : SV) (nx : Nat) : Quiet (binS P op t x y nx) nx := by
 unfold binS
 split
 · split
   · exact quiet_shift _ _ _ _ _
   · exact quiet_shift _ _ _ _ _
   · cases ikEq _ _
     · exact Quiet.fail _
     · exact quiet_intBin _ _ _ _ .fail _
 · exact quiet_str _ _ _ _
 · split <;> first | exact Quiet.done _ _ | exact Quiet.fail _
 · rename_i as bs
   cases isAggT P t && plainEq P 40 t && !P.eqGuardType P.depth t && fitsAll P (leaves P 40 t) as && fitsAll P (leaves P 40 t) bs with
   | false => exact Quiet.fail _
   | true => simp only [cond_true]; split <;> first | exact Quiet.done _ _ | exact Quiet.fail _
 · exact Quiet.fail _
theorem quiet_conv (s d : TypeId) (x : SV) (nx : Nat) : Quiet (convS P s d x nx) nx := by
 unfold convS
 split <;> first | exact Quiet.done _ _ | exact Quiet.fail _
theorem quiet_build (t : TypeId) (ps : List (Nat × SV)) (nx : Nat) : Quiet (buildS P t ps nx) nx := by
 unfold buildS
 cases buildOk P t with
 | false => exact Quiet.fail _
 | true =>
  simp only [cond_true]
  split
  · split <;> first | exact Quiet.done _ _ | exact Quiet.fail _
  · exact Quiet.fail _
theorem quiet_indexAddr (t : TypeId) (x ix : SV) (nx : Nat) : Quiet (indexAddrS P t x ix nx) nx := by
 unfold indexAddrS
 split
 · rename_i e _ _ _
   cases knownT P e
   · exact Quiet.fail _
   · exact Quiet.ite (Quiet.done _ _) (Quiet.fail _)
 · rename_i e _ _ _ _ _
   cases knownT P e
   · exact Quiet.fail _
   · exact Quiet.ite (Quiet.done _ _) (Quiet.fail _)
 · exact Quiet.fail _
theorem quiet_index (t : TypeId) (x ix : SV) (nx : Nat) : Quiet (indexS P t x ix nx) nx := by
 unfold indexS
 split
 · rename_i e _ _
   cases knownT P e
   · exact Quiet.fail _
   · simp only [cond_true]
     split
     · exact Quiet.ite (Quiet.done _ _) (Quiet.fail _)
     · exact Quiet.fail _
 · exact Quiet.ite (Quiet.done _ _) (Quiet.fail _)
 · exact Quiet.fail _
theorem quiet_builtin (b : Builtin) (tys : List TypeId) (args : List SV) (nx : Nat) : Quiet (builtinS P b tys args nx) nx := by
 unfold builtinS
 split
 · unfold lenS
   split <;> first | exact Quiet.done _ _ | exact Quiet.fail _
 · exact Quiet.fail _
theorem getD_mem (l : List Nat) (i : Nat) (h : i < l.length) : l.getD i 0 ∈ l := by
 have : l.getD i 0 = l[i] := by simp [List.getD_eq_getElem?_getD, h]
 rw [this]; exact List.getElem_mem h
theorem callS_wf {s : CSumm} {args : List SV} {h : HpF} {r : SV} {ups : List (Nat × Option Chunk)} {nx nx' : Nat} {rs : List Nat} (hm : mrun h (callS s args nx) = some (r, ups, nx', rs)) :
  nx ≤ nx' ∧ ∀ p ∈ ups, p.1 ∈ rs ∨ (nx ≤ p.1 ∧ p.1 < nx') := by
 unfold callS at hm
 dsimp only at hm
 obtain ⟨acc, rs1, rs2, hcl, hclosed, hargs, -, hrd, hm2, rfl⟩ := closeM_spec _ _ _ _ hm ⟨(fun p hp => by cases hp), List.nodup_nil⟩ (fun p hp => by cases hp)
 obtain ⟨v, u, hrun, rfl, rfl, rfl⟩ := ofCTree_run _ hm2
 refine ⟨by omega, fun p hp => ?_⟩
 have hk : p.1 ∈ (backUps _ u).map (·.1) := List.mem_map.2 ⟨p, hp, rfl⟩
 rw [backUps_keys] at hk
 obtain ⟨q, hq, he⟩ := List.mem_map.1 hk
 rw [← he]
 have hqb := boundN_mem (namesS v ++ namesU u) (acc.reverse.map (·.1)).length q.1 (List.mem_append.2 (.inr (namesU_key hq)))
 unfold backName
 cases hb : Nat.blt q.1 (acc.reverse.map (·.1)).length with
 | true =>
  simp only [cond_true]
  rw [Nat.blt_eq] at hb
  left
  have := getD_mem _ _ hb
  have : (acc.reverse.map (·.1)).getD q.1 0 ∈ acc.map (·.1) := by simpa using this
  rcases hrd _ this with h1 | h1
  · cases h1
  · exact List.mem_append.2 (.inl h1)
 | false =>
  simp only [cond_false]
  have : ¬ q.1 < (acc.reverse.map (·.1)).length := by intro hh; rw [← Nat.blt_eq] at hh; rw [hh] at hb; cases hb
  right
  omega
theorem opM0_wf {κ : Nat → Option CSumm} {o : Oper} {ev : Operand → SV} {h : HpF} {r : SV} {ups : List (Nat × Option Chunk)} {nx nx' : Nat} {rs : List Nat} (hm : mrun h (opM0 P κ o ev nx) = some (r, ups, nx', rs)) :
  nx ≤ nx' ∧ ∀ p ∈ ups, p.1 ∈ rs ∨ (nx ≤ p.1 ∧ p.1 < nx') := by
 have quiet : ∀ {m : OpM}, Quiet m nx → mrun h m = some (r, ups, nx', rs) → nx ≤ nx' ∧ ∀ p ∈ ups, p.1 ∈ rs ∨ (nx ≤ p.1 ∧ p.1 < nx') := by
  intro m hq hm
  obtain ⟨rfl, rfl⟩ := hq h r ups nx' rs hm
  exact ⟨Nat.le_refl _, fun p hp => by cases hp⟩
 have new : ∀ {r0 : SV} {c : Option Chunk}, mrun h (.done r0 [(nx, c)] (nx + 1)) = some (r, ups, nx', rs) → nx ≤ nx' ∧ ∀ p ∈ ups, p.1 ∈ rs ∨ (nx ≤ p.1 ∧ p.1 < nx') := by
  intro r0 c hm
  obtain ⟨_, rfl, rfl, _⟩ := mrun_done hm
  exact ⟨by omega, fun p hp => by simp at hp; subst hp; exact .inr (by omega)⟩
 obtain ⟨dst, op, type, pos, after, guard⟩ := o
 cases op <;> simp only [opM0] at hm <;> try (simp [mrun] at hm; done)
 case move x => exact quiet (Quiet.done _ _) hm
 case assign x => exact quiet (Quiet.done _ _) hm
 case pick c x y =>
  split at hm
  · exact quiet (Quiet.ite (Quiet.done _ _) (Quiet.done _ _)) hm
  · exact quiet (Quiet.fail _) hm
 case alloc t =>
  split at hm
  · split at hm
    · exact new hm
    · exact quiet (Quiet.fail _) hm
  · exact quiet (Quiet.fail _) hm
 case box t x =>
  split at hm
  · exact new hm
  · exact quiet (Quiet.fail _) hm
 case build t ps => exact quiet (quiet_build _ _ _) hm
 case load t x =>
  split at hm
  · rename_i y off he
    simp only [mrun] at hm
    cases hy : h y with
    | none => simp [hy] at hm
    | some c =>
     simp only [hy] at hm
     cases c with
     | seq e es => simp [mrun] at hm
     | loopr => simp [mrun] at hm
     | mpc => simp [mrun] at hm
     | mpb => simp [mrun] at hm
     | mpn => simp [mrun] at hm
     | mit => simp [mrun] at hm
     | sqo => simp [mrun] at hm
     | sqp => simp [mrun] at hm
     | ext => simp [mrun] at hm
     | cells T vs =>
      simp only [] at hm
      cases hp : partS P t vs off with
      | none => simp [hp, mrun] at hm
      | some v =>
       simp only [hp, mrun, Option.some.injEq, Prod.mk.injEq] at hm
       obtain ⟨rfl, rfl, rfl, rfl⟩ := hm
       exact ⟨Nat.le_refl _, fun p hp => by cases hp⟩
  · exact quiet (Quiet.fail _) hm
 case store t x v =>
  split at hm
  · rename_i y off vs he hc
    cases hb : Nat.beq vs.length (P.cellsOf t) && knownT P t with
    | false => simp [hb, mrun] at hm
    | true =>
     simp only [hb, cond_true, mrun] at hm
     cases hy : h y with
     | none => simp [hy] at hm
     | some c =>
      simp only [hy] at hm
      cases c with
      | seq e es => simp [mrun] at hm
      | loopr => simp [mrun] at hm
      | mpc => simp [mrun] at hm
      | mpb => simp [mrun] at hm
      | mpn => simp [mrun] at hm
      | mit => simp [mrun] at hm
      | sqo => simp [mrun] at hm
      | sqp => simp [mrun] at hm
      | ext => simp [mrun] at hm
      | cells T cs =>
       simp only [] at hm
       cases hs : splice cs off vs with
       | none => simp [hs, mrun] at hm
       | some cs' =>
        simp only [hs, mrun, Option.some.injEq, Prod.mk.injEq] at hm
        obtain ⟨rfl, rfl, rfl, rfl⟩ := hm
        exact ⟨Nat.le_refl _, fun p hp => by simp at hp; subst hp; exact .inl (by simp)⟩
  · exact quiet (Quiet.fail _) hm
 case nilCheck x => split at hm <;> first | exact quiet (Quiet.done _ _) hm | exact quiet (Quiet.fail _) hm
 case binOp op t x y yt =>
  split at hm
  · exact quiet (Quiet.done _ _) hm
  · exact quiet (Quiet.done _ _) hm
  · exact quiet (quiet_bin _ _ _ _ _) hm
 case unOp op t x => split at hm <;> first | exact quiet (Quiet.done _ _) hm | exact quiet (Quiet.fail _) hm
 case convert s d x => exact quiet (quiet_conv _ _ _ _) hm
 case makeFunc f as bs => split at hm <;> first | exact quiet (Quiet.done _ _) hm | exact quiet (Quiet.fail _) hm
 case fieldAddr t x f =>
  split at hm
  · split at hm
    · rename_i fd _
      cases hz : Nat.beq (P.cellsOf fd.type) 0 with
      | true => rw [hz] at hm; exact quiet (Quiet.fail _) hm
      | false => rw [hz] at hm; exact quiet (Quiet.done _ _) hm
    · exact quiet (Quiet.fail _) hm
  · exact quiet (Quiet.fail _) hm
 case field t x f =>
  split at hm
  · split at hm
    · split at hm
      · exact quiet (Quiet.done _ _) hm
      · exact quiet (Quiet.fail _) hm
    · exact quiet (Quiet.fail _) hm
  · exact quiet (Quiet.fail _) hm
 case extract x i =>
  split at hm
  · split at hm
    · exact quiet (Quiet.done _ _) hm
    · exact quiet (Quiet.fail _) hm
  · exact quiet (Quiet.fail _) hm
 case buildSlice t n ps =>
  unfold buildSliceS at hm
  split at hm
  · rename_i e _
    cases hk : knownT P e && Nat.ble (n * P.cellsOf e) 16777216 && !(Nat.beq (P.cellsOf e) 0) with
    | false => rw [hk] at hm; exact quiet (Quiet.fail _) hm
    | true =>
     rw [hk] at hm
     simp only [cond_true] at hm
     split at hm
     · split at hm
       · rename_i zs _
         cases hb : Nat.beq zs.length (P.cellsOf e) with
         | false => rw [hb] at hm; exact quiet (Quiet.fail _) hm
         | true =>
          rw [hb] at hm
          simp only [cond_true] at hm
          split at hm
          · exact new hm
          · exact quiet (Quiet.fail _) hm
       · exact quiet (Quiet.fail _) hm
     · exact quiet (Quiet.fail _) hm
  · exact quiet (Quiet.fail _) hm
 case makeSlice t l c =>
  unfold makeSliceS at hm
  split at hm
  · rename_i e _ a _ b _ _ _
    cases hst : isStrT P e with
    | true => rw [hst] at hm; exact quiet (Quiet.fail _) hm
    | false =>
    rw [hst] at hm
    simp only [cond_false] at hm
    split at hm
    · split at hm
      · split at hm
        · rename_i zs _
          cases hb : Nat.beq zs.length (P.cellsOf e) && !(Nat.beq (P.cellsOf e) 0) with
          | false => rw [hb] at hm; exact quiet (Quiet.fail _) hm
          | true =>
           rw [hb] at hm
           simp only [cond_true] at hm
           unfold mrun at hm
           split at hm
           · exact new hm
           · cases hm
        · exact quiet (Quiet.fail _) hm
      · exact quiet (Quiet.fail _) hm
    · exact quiet (Quiet.fail _) hm
  · exact quiet (Quiet.fail _) hm
 case slice t x lo hi mx =>
  refine quiet ?_ hm
  unfold sliceS
  split
  · split
    · have qc : ∀ (b : Bool) (m : OpM), Quiet m nx → Quiet (bif b then m else .fail) nx := fun b m h => by
        cases b
        · exact Quiet.fail _
        · exact h
      refine qc _ _ ?_
      unfold slicedS
      exact Quiet.ite (Quiet.ite (Quiet.done _ _) (Quiet.done _ _)) (Quiet.fail _)
    · exact Quiet.fail _
  · exact Quiet.fail _
 case indexAddr t x ix => exact quiet (quiet_indexAddr _ _ _ _) hm
 case index t x ix => exact quiet (quiet_index _ _ _ _) hm
 case call c =>
  split at hm
  · split at hm
    · rename_i g first caps _
      unfold callM at hm
      cases hk : κ g with
      | none => simp [hk, mrun] at hm
      | some s =>
       simp only [hk] at hm
       exact callS_wf hm
    · exact quiet (Quiet.fail _) hm
  · exact quiet (quiet_builtin _ _ _ _) hm
  · split at hm
    · split at hm
      · rename_i g _
        unfold callM at hm
        cases hk : κ g with
        | none => simp [hk, mrun] at hm
        | some s =>
         simp only [hk] at hm
         exact callS_wf hm
      · exact quiet (Quiet.fail _) hm
    · exact quiet (Quiet.fail _) hm
theorem opM_wf {κ : Nat → Option CSumm} {o : Oper} {ev : Operand → SV} {h : HpF} {r : SV} {ups : List (Nat × Option Chunk)} {nx nx' : Nat} {rs : List Nat} (hm : mrun h (opM P κ o ev nx) = some (r, ups, nx', rs)) :
  nx ≤ nx' ∧ ∀ p ∈ ups, p.1 ∈ rs ∨ (nx ≤ p.1 ∧ p.1 < nx') := by
 rcases opM_cases (P := P) (κ := κ) (o := o) (ev := ev) (nx := nx) with hc | hc <;> rw [hc] at hm
 · obtain ⟨-, h1, h2⟩ := chkM_run hm
   refine ⟨h1, fun p hp => ?_⟩
   rcases h2 p hp with h3 | h3 | h3
   · cases h3
   · exact .inl h3
   · exact .inr h3
 · exact opM0_wf hm
/- In the order of the text. -/
def Fr (nx : Nat) (θ : Th) (h : HpF) : Prop := ∀ x, nx ≤ x → θ x = none ∧ h x = none
theorem Fr.step {nx nx' : Nat} {θ θ' : Th} {h : HpF} {w w' : World} {Im Im' : Nat → Prop} {ups : List (Nat × Option Chunk)} {rs : List Nat} (f : Fr nx θ h) (hle : nx ≤ nx') (hk : ∀ p ∈ ups, p.1 ∈ rs ∨ (nx ≤ p.1 ∧ p.1 < nx')) (hrs : ∀ x ∈ rs, ∃ c, h x = some c)
  (he : Ext (fun x => nx ≤ x ∧ x < nx') h w Im θ (updF ups h) w' Im' θ') : Fr nx' θ' (updF ups h) := by
 intro x hx
 refine ⟨by rw [he.thOld x (by omega)]; exact (f x (by omega)).1, ?_⟩
 rw [updF_not]
 · exact (f x (by omega)).2
 · intro hh
   obtain ⟨p, hp, rfl⟩ := List.mem_map.1 hh
   rcases hk p hp with h1 | h1
   · obtain ⟨c, hc⟩ := hrs _ h1
     rw [(f p.1 (by omega)).2] at hc; cases hc
   · omega
theorem seq_sound {κ : Nat → Option CSumm} (hκ : KOk P κ) {all : List Oper} {n : Nat} {nx0 : Nat} {h0 : HpF} {w0 : World} {Im0 : Nat → Prop} {θ0 : Th} {ro : Option Nat} {ds : List Deferred} {Q : Exit → Act → World → Prop} :
  ∀ {os : List Oper} {T T' : Nat → SV} {h h' : HpF} {nx nx' : Nat} {recs : List Rec}, Txt P κ all n os T h nx recs T' h' nx' →
   ∀ (i : Nat) (a : Act) (w : World) (Im : Nat → Prop) (θ : Th), all.drop i = os → a.defers = ds → SimF P ω n T h a w Im θ → Fr nx θ h → nx0 ≤ nx → Ext (fun x => nx0 ≤ x) h0 w0 Im0 θ0 h w Im θ →
   (∀ a' w' Im' θ', a'.defers = ds → SimF P ω n T' h' a' w' Im' θ' → Fr nx' θ' h' → nx0 ≤ nx' → Ext (fun x => nx0 ≤ x) h0 w0 Im0 θ0 h' w' Im' θ' → Q .normal a' w') → wpOpsIn (FR ro) 0 P all.toArray Q (List.range' i os.length) a w := by
 intro os T T' h h' nx nx' recs ht
 induction ht with
 | nil =>
  intro i a w Im θ _ hdf hs hf hn he hQ
  exact hQ a w Im θ hdf hs hf hn he
 | run hd hw hm _ ih =>
  rename_i o os T T' h h' nx nx1 nx' r ups rs recs _
  intro i a w Im θ hall hdf hs hf hn he hQ
  have ho : all[i]? = some o := by
   have := congrArg (·[0]?) hall
   simpa using this
  obtain ⟨hle, hkeys⟩ := opM_wf hm
  simp only [List.length_cons, List.range'_succ, wpOpsIn, List.getElem?_toArray, ho]
  rw [wanted_eq hs hw]
  simp only [if_true]
  refine op_good hκ hs.hp (fun x _ => hs.eval x) (fun x h1 h2 => hf x h1) hm ro _ _ (fun v w' Im' θ' hE hv hH => ?_)
  have hs' := hs.step hd hE hv hH
  refine ih (i + 1) _ w' Im' θ' ?_ (by rw [put_defers]; exact hdf) hs' (hf.step hle hkeys (mrun_reads _ _ hm) hE) (by omega) (he.trans (hE.mono (fun x hx => by omega))) hQ
  have := congrArg List.tail hall
  simpa using this
 | skip hd hw _ ih =>
  rename_i o os T T' h h' nx nx' recs _
  intro i a w Im θ hall hdf hs hf hn he hQ
  have ho : all[i]? = some o := by
   have := congrArg (·[0]?) hall
   simpa using this
  simp only [List.length_cons, List.range'_succ, wpOpsIn, List.getElem?_toArray, ho]
  rw [wanted_eq hs hw]
  simp only [Bool.false_eq_true, if_false]
  refine ⟨fun f _ => FR_fn ro f, ih (i + 1) _ w Im θ ?_ (by rw [put_defers]; exact hdf) (hs.skip hd) hf hn he hQ⟩
  have := congrArg List.tail hall
  simpa using this
/- In any order. -/
abbrev OR := List (Oper × Rec)
def TD : OR → (Nat → Bool) → Nat → (Nat → SV) → (Nat → SV)
 | [], _, _, T => T
 | (o, ρ) :: l, D, i, T => TD l D (i + 1) (if D i then updT T o.dst ρ.r else T)
def HD : OR → (Nat → Bool) → Nat → HpF → HpF
 | [], _, _, h => h
 | (_, ρ) :: l, D, i, h => HD l D (i + 1) (if D i then updF ρ.ups h else h)
theorem TD_congr : ∀ (l : OR) (D D' : Nat → Bool) (i : Nat) (T T' : Nat → SV) (t : Nat), T t = T' t → (∀ j o ρ, l[j]? = some (o, ρ) → o.dst = some t → D (i + j) = D' (i + j)) → TD l D i T t = TD l D' i T' t
 | [], _, _, _, _, _, _, h, _ => h
 | (o, ρ) :: l, D, D', i, T, T', t, h, hj => by
  simp only [TD]
  refine TD_congr l D D' (i + 1) _ _ t ?_ (fun j o' ρ' hl hd => by
   have := hj (j + 1) o' ρ' (by simpa using hl) hd
   rwa [show i + 1 + j = i + (j + 1) by omega])
  by_cases hd : o.dst = some t
  · have := hj 0 o ρ rfl hd
    simp only [Nat.add_zero] at this
    rw [this]
    cases D' i <;> simp [updT, hd, h]
  · have e : ∀ (S : Nat → SV), updT S o.dst ρ.r t = S t := by
      intro S
      cases ho : o.dst with
      | none => rfl
      | some d =>
       have : t ≠ d := by intro e; subst e; exact hd ho
       simp [updT, this]
    cases D i <;> cases D' i <;> simp [e, h]
theorem HD_congr : ∀ (l : OR) (D D' : Nat → Bool) (i : Nat) (h h' : HpF) (x : Nat), h x = h' x → (∀ j o ρ, l[j]? = some (o, ρ) → x ∈ ρ.ups.map (·.1) → D (i + j) = D' (i + j)) → HD l D i h x = HD l D' i h' x
 | [], _, _, _, _, _, _, h, _ => h
 | (o, ρ) :: l, D, D', i, h, h', x, hx, hj => by
  simp only [HD]
  refine HD_congr l D D' (i + 1) _ _ x ?_ (fun j o' ρ' hl hd => by
   have := hj (j + 1) o' ρ' (by simpa using hl) hd
   rwa [show i + 1 + j = i + (j + 1) by omega])
  by_cases hd : x ∈ ρ.ups.map (·.1)
  · have := hj 0 o ρ rfl hd
    simp only [Nat.add_zero] at this
    rw [this]
    cases D' i
    · simpa using hx
    · simp only [if_true]; exact updF_key hd
  · have e : ∀ (S : HpF), updF ρ.ups S x = S x := fun S => updF_not hd
    cases D i <;> cases D' i <;> simp [e, hx]
theorem TD_add : ∀ (l : OR) (D : Nat → Bool) (i k : Nat) (T : Nat → SV) (o : Oper) (ρ : Rec), l[k]? = some (o, ρ) → D (i + k) = false → (∀ j o' ρ', k < j → l[j]? = some (o', ρ') → D (i + j) = true → ∀ d, o.dst = some d → o'.dst ≠ some d) →
  TD l (fun j => D j || j == i + k) i T = updT (TD l D i T) o.dst ρ.r
 | [], _, _, _, _, _, _, h, _, _ => by simp at h
 | (o1, ρ1) :: l, D, i, 0, T, o, ρ, h, hD, hj => by
  simp only [List.getElem?_cons_zero, Option.some.injEq, Prod.mk.injEq] at h
  obtain ⟨rfl, rfl⟩ := h
  simp only [Nat.add_zero] at hD
  funext t
  simp only [TD, Nat.add_zero, beq_self_eq_true, Bool.or_true, if_true, hD, Bool.false_eq_true, if_false]
  by_cases hd : o1.dst = some t
  · have e1 : TD l (fun j => D j || j == i) (i + 1) (updT T o1.dst ρ1.r) t = updT T o1.dst ρ1.r t := by
      have gen : ∀ (l' : OR) (i' : Nat) (S : Nat → SV), (∀ j o' ρ', l'[j]? = some (o', ρ') → (fun j => D j || j == i) (i' + j) = true → o'.dst ≠ some t) → TD l' (fun j => D j || j == i) i' S t = S t := by
       intro l'
       induction l' with
       | nil => intros; rfl
       | cons p l' ih =>
        obtain ⟨o2, ρ2⟩ := p
        intro i' S hh
        simp only [TD]
        rw [ih (i' + 1) _ (fun j o' ρ' hl hD' => hh (j + 1) o' ρ' (by simpa using hl) (by rwa [show i' + (j + 1) = i' + 1 + j by omega]))]
        split
        · rename_i hDi
          have := hh 0 o2 ρ2 rfl (by simpa using hDi)
          cases h2 : o2.dst with
          | none => rfl
          | some d2 =>
           have : t ≠ d2 := by intro e; subst e; exact this h2
           simp [updT, this]
        · rfl
      refine gen l (i + 1) _ (fun j o' ρ' hl hD' => ?_)
      refine hj (j + 1) o' ρ' (by omega) (by simpa using hl) ?_ t hd
      rw [show i + (j + 1) = i + 1 + j by omega]
      simp only [Bool.or_eq_true] at hD'
      rcases hD' with h1 | h1
      · exact h1
      · simp at h1; omega
    rw [e1]
    simp [updT, hd]
  · have e : ∀ (S : Nat → SV), updT S o1.dst ρ1.r t = S t := by
      intro S
      cases ho : o1.dst with
      | none => rfl
      | some d =>
       have : t ≠ d := by intro e; subst e; exact hd ho
       simp [updT, this]
    rw [e]
    refine TD_congr l _ _ (i + 1) _ _ t (e T) (fun j o' ρ' hl hd' => ?_)
    have : (i + 1 + j == i) = false := by simp; omega
    simp [this]
 | (o1, ρ1) :: l, D, i, k + 1, T, o, ρ, h, hD, hj => by
  simp only [TD]
  have hne : (i == i + (k + 1)) = false := by simp
  simp only [hne, Bool.or_false]
  rw [show (fun j => D j || j == i + (k + 1)) = (fun j => D j || j == (i + 1) + k) by funext j; rw [show i + (k + 1) = i + 1 + k by omega]]
  exact TD_add l D (i + 1) k _ o ρ (by simpa using h) (by rwa [show i + 1 + k = i + (k + 1) by omega]) (fun j o' ρ' hkj hl hD' => hj (j + 1) o' ρ' (by omega) (by simpa using hl) (by rwa [show i + (j + 1) = i + 1 + j by omega]))
theorem HD_add : ∀ (l : OR) (D : Nat → Bool) (i k : Nat) (h : HpF) (o : Oper) (ρ : Rec), l[k]? = some (o, ρ) → D (i + k) = false → (∀ j o' ρ', k < j → l[j]? = some (o', ρ') → D (i + j) = true → ∀ x, x ∈ ρ.ups.map (·.1) → x ∉ ρ'.ups.map (·.1)) →
  HD l (fun j => D j || j == i + k) i h = updF ρ.ups (HD l D i h)
 | [], _, _, _, _, _, _, h, _, _ => by simp at h
 | (o1, ρ1) :: l, D, i, 0, h0, o, ρ, h, hD, hj => by
  simp only [List.getElem?_cons_zero, Option.some.injEq, Prod.mk.injEq] at h
  obtain ⟨rfl, rfl⟩ := h
  simp only [Nat.add_zero] at hD
  funext x
  simp only [HD, Nat.add_zero, beq_self_eq_true, Bool.or_true, if_true, hD, Bool.false_eq_true, if_false]
  by_cases hd : x ∈ ρ1.ups.map (·.1)
  · have e1 : HD l (fun j => D j || j == i) (i + 1) (updF ρ1.ups h0) x = updF ρ1.ups h0 x := by
      have gen : ∀ (l' : OR) (i' : Nat) (S : HpF), (∀ j o' ρ', l'[j]? = some (o', ρ') → (fun j => D j || j == i) (i' + j) = true → x ∉ ρ'.ups.map (·.1)) → HD l' (fun j => D j || j == i) i' S x = S x := by
       intro l'
       induction l' with
       | nil => intros; rfl
       | cons p l' ih =>
        obtain ⟨o2, ρ2⟩ := p
        intro i' S hh
        simp only [HD]
        rw [ih (i' + 1) _ (fun j o' ρ' hl hD' => hh (j + 1) o' ρ' (by simpa using hl) (by rwa [show i' + (j + 1) = i' + 1 + j by omega]))]
        split
        · rename_i hDi
          have := hh 0 o2 ρ2 rfl (by simpa using hDi)
          exact updF_not this
        · rfl
      refine gen l (i + 1) _ (fun j o' ρ' hl hD' => ?_)
      refine hj (j + 1) o' ρ' (by omega) (by simpa using hl) ?_ x hd
      rw [show i + (j + 1) = i + 1 + j by omega]
      simp only [Bool.or_eq_true] at hD'
      rcases hD' with h1 | h1
      · exact h1
      · simp at h1; omega
    rw [e1]
    exact updF_key hd
  · rw [updF_not hd]
    refine HD_congr l _ _ (i + 1) _ _ x (updF_not hd) (fun j o' ρ' hl hd' => ?_)
    have : (i + 1 + j == i) = false := by simp; omega
    simp [this]
 | (o1, ρ1) :: l, D, i, k + 1, h0, o, ρ, h, hD, hj => by
  simp only [HD]
  have hne : (i == i + (k + 1)) = false := by simp
  simp only [hne, Bool.or_false]
  rw [show (fun j => D j || j == i + (k + 1)) = (fun j => D j || j == (i + 1) + k) by funext j; rw [show i + (k + 1) = i + 1 + k by omega]]
  exact HD_add l D (i + 1) k _ o ρ (by simpa using h) (by rwa [show i + 1 + k = i + (k + 1) by omega]) (fun j o' ρ' hkj hl hD' => hj (j + 1) o' ρ' (by omega) (by simpa using hl) (by rwa [show i + (j + 1) = i + 1 + j by omega]))
theorem TD_shift : ∀ (l : OR) (D : Nat → Bool) (i : Nat) (T : Nat → SV), TD l D (i + 1) T = TD l (fun j => D (j + 1)) i T
 | [], _, _, _ => rfl
 | (o, ρ) :: l, D, i, T => by simp only [TD]; exact TD_shift l D (i + 1) _
theorem HD_shift : ∀ (l : OR) (D : Nat → Bool) (i : Nat) (h : HpF), HD l D (i + 1) h = HD l (fun j => D (j + 1)) i h
 | [], _, _, _ => rfl
 | (o, ρ) :: l, D, i, h => by simp only [HD]; exact HD_shift l D (i + 1) _
theorem TD_none : ∀ (l : OR) (D : Nat → Bool) (i : Nat) (T : Nat → SV), (∀ j, i ≤ j → D j = false) → TD l D i T = T
 | [], _, _, _, _ => rfl
 | (o, ρ) :: l, D, i, T, h => by
  simp only [TD, h i (Nat.le_refl _), Bool.false_eq_true, if_false]
  exact TD_none l D (i + 1) T (fun j hj => h j (by omega))
theorem HD_none : ∀ (l : OR) (D : Nat → Bool) (i : Nat) (h : HpF), (∀ j, i ≤ j → D j = false) → HD l D i h = h
 | [], _, _, _, _ => rfl
 | (o, ρ) :: l, D, i, h0, h => by
  simp only [HD, h i (Nat.le_refl _), Bool.false_eq_true, if_false]
  exact HD_none l D (i + 1) h0 (fun j hj => h j (by omega))
def upTo (i : Nat) : Nat → Bool := fun j => Nat.blt j i
theorem upTo_iff {i j : Nat} : upTo i j = true ↔ j < i := by simp [upTo, Nat.blt_eq]
theorem upTo_false {i j : Nat} : upTo i j = false ↔ ¬ j < i := by
 rw [← upTo_iff]; simp
theorem upTo_succ (i : Nat) : (fun j => upTo (i + 1) (j + 1)) = upTo i := by
 funext j
 have h1 := @upTo_iff (i + 1) (j + 1)
 have h2 := @upTo_iff i j
 cases h3 : upTo (i + 1) (j + 1) <;> cases h4 : upTo i j <;> first | rfl | (rw [h3] at h1; rw [h4] at h2; simp at h1 h2; omega)
structure Fact (P : Program) (κ : Nat → Option CSumm) (all : List Oper) (n : Nat) (l : OR) (T : Nat → SV) (h : HpF) (nx nx' : Nat) (i : Nat) (o : Oper) (ρ : Rec) : Prop where
 dst : dstN n o.dst
 want : wantedT all n (TD l (upTo i) 0 T) o = some ρ.ex
 run : ρ.ex = true → mrun (HD l (upTo i) 0 h) (opM P κ o (evT (TD l (upTo i) 0 T)) ρ.nx0) = some (ρ.r, ρ.ups, ρ.nx1, ρ.rs)
 idle : ρ.ex = false → ρ.r = .tup [] ∧ ρ.ups = [] ∧ ρ.nx1 = ρ.nx0 ∧ ρ.rs = []
 lo : nx ≤ ρ.nx0
 mid : ρ.nx0 ≤ ρ.nx1
 hi : ρ.nx1 ≤ nx'
 dom : ∀ x c, HD l (upTo i) 0 h x = some c → x < ρ.nx0
theorem txt_facts {κ : Nat → Option CSumm} {all : List Oper} {n : Nat} {os : List Oper} {T T' : Nat → SV} {h h' : HpF} {nx nx' : Nat} {recs : List Rec} (ht : Txt P κ all n os T h nx recs T' h' nx') :
  (∀ x c, h x = some c → x < nx) → recs.length = os.length ∧ nx ≤ nx' ∧ T' = TD (os.zip recs) (fun _ => true) 0 T ∧ h' = HD (os.zip recs) (fun _ => true) 0 h ∧
   (∀ (i : Nat) (o : Oper) (ρ : Rec), (os.zip recs)[i]? = some (o, ρ) → Fact P κ all n (os.zip recs) T h nx nx' i o ρ) ∧
   (∀ (i j : Nat) (o : Oper) (ρ : Rec) (o' : Oper) (ρ' : Rec), i < j → (os.zip recs)[i]? = some (o, ρ) → (os.zip recs)[j]? = some (o', ρ') → ρ.nx1 ≤ ρ'.nx0) := by
 induction ht with
 | nil => intro _; exact ⟨rfl, Nat.le_refl _, rfl, rfl, fun i o ρ h => by simp at h, fun i j o ρ o' ρ' _ h => by simp at h⟩
 | run hd hw hm _ ih =>
  rename_i o os T T' h h' nx nx1 nx' r ups rs recs _
  intro hdom
  obtain ⟨hle, hkeys⟩ := opM_wf hm
  have hdom1 : ∀ x c, updF ups h x = some c → x < nx1 := by
   intro x c hx
   rcases updF_mem hx with h1 | ⟨_, h1⟩
   · rcases hkeys _ h1 with h2 | h2
     · obtain ⟨c', hc'⟩ := mrun_reads _ _ hm x h2
       have := hdom x c' hc'; omega
     · exact h2.2
   · have := hdom x c h1; omega
  obtain ⟨i1, i2, i3, i4, i5, i6⟩ := ih hdom1
  refine ⟨by simp [i1], by omega, ?_, ?_, ?_, ?_⟩
  · simp only [List.zip_cons_cons, TD, if_true]; rw [TD_shift]; exact i3
  · simp only [List.zip_cons_cons, HD, if_true]; rw [HD_shift]; exact i4
  · intro i o' ρ' hi
    cases i with
    | zero =>
     simp only [List.zip_cons_cons, List.getElem?_cons_zero, Option.some.injEq, Prod.mk.injEq] at hi
     obtain ⟨rfl, rfl⟩ := hi
     have hz : ∀ j, 0 ≤ j → upTo 0 j = false := fun j _ => upTo_false.2 (by omega)
     refine ⟨hd, ?_, fun _ => ?_, (fun h => by cases h), Nat.le_refl _, hle, i2, ?_⟩
     · rw [TD_none _ _ _ _ hz]; exact hw
     · rw [TD_none _ _ _ _ hz, HD_none _ _ _ _ hz]; exact hm
     · rw [HD_none _ _ _ _ hz]; exact hdom
    | succ i =>
     have f := i5 i o' ρ' (by simpa using hi)
     have e1 : TD (((o, (⟨true, r, ups, nx, nx1, rs⟩ : Rec)) :: os.zip recs)) (upTo (i + 1)) 0 T = TD (os.zip recs) (upTo i) 0 (updT T o.dst r) := by
      simp only [TD, upTo_iff.2 (Nat.succ_pos i), if_true]
      rw [TD_shift, upTo_succ]
     have e2 : HD (((o, (⟨true, r, ups, nx, nx1, rs⟩ : Rec)) :: os.zip recs)) (upTo (i + 1)) 0 h = HD (os.zip recs) (upTo i) 0 (updF ups h) := by
      simp only [HD, upTo_iff.2 (Nat.succ_pos i), if_true]
      rw [HD_shift, upTo_succ]
     simp only [List.zip_cons_cons]
     refine ⟨f.dst, ?_, fun he => ?_, f.idle, by have := f.lo; omega, f.mid, f.hi, ?_⟩
     · rw [e1]; exact f.want
     · rw [e1, e2]; exact f.run he
     · rw [e2]; exact f.dom
  · intro i j o1 ρ1 o2 ρ2 hij hi hj
    cases j with
    | zero => omega
    | succ j =>
     cases i with
     | zero =>
      simp only [List.zip_cons_cons, List.getElem?_cons_zero, Option.some.injEq, Prod.mk.injEq] at hi
      obtain ⟨rfl, rfl⟩ := hi
      exact (i5 j o2 ρ2 (by simpa using hj)).lo
     | succ i => exact i6 i j o1 ρ1 o2 ρ2 (by omega) (by simpa using hi) (by simpa using hj)
 | skip hd hw _ ih =>
  rename_i o os T T' h h' nx nx' recs _
  intro hdom
  obtain ⟨i1, i2, i3, i4, i5, i6⟩ := ih hdom
  refine ⟨by simp [i1], by omega, ?_, ?_, ?_, ?_⟩
  · simp only [List.zip_cons_cons, TD, if_true]; rw [TD_shift]; exact i3
  · simp only [List.zip_cons_cons, HD, if_true, updF]; rw [HD_shift]; exact i4
  · intro i o' ρ' hi
    cases i with
    | zero =>
     simp only [List.zip_cons_cons, List.getElem?_cons_zero, Option.some.injEq, Prod.mk.injEq] at hi
     obtain ⟨rfl, rfl⟩ := hi
     have hz : ∀ j, 0 ≤ j → upTo 0 j = false := fun j _ => upTo_false.2 (by omega)
     refine ⟨hd, ?_, (fun h => by cases h), fun _ => ⟨rfl, rfl, rfl, rfl⟩, Nat.le_refl _, Nat.le_refl _, i2, ?_⟩
     · rw [TD_none _ _ _ _ hz]; exact hw
     · rw [HD_none _ _ _ _ hz]; exact hdom
    | succ i =>
     have f := i5 i o' ρ' (by simpa using hi)
     have e1 : TD (((o, (⟨false, .tup [], [], nx, nx, []⟩ : Rec)) :: os.zip recs)) (upTo (i + 1)) 0 T = TD (os.zip recs) (upTo i) 0 (updT T o.dst (.tup [])) := by
      simp only [TD, upTo_iff.2 (Nat.succ_pos i), if_true]
      rw [TD_shift, upTo_succ]
     have e2 : HD (((o, (⟨false, .tup [], [], nx, nx, []⟩ : Rec)) :: os.zip recs)) (upTo (i + 1)) 0 h = HD (os.zip recs) (upTo i) 0 h := by
      simp only [HD, upTo_iff.2 (Nat.succ_pos i), if_true, updF]
      rw [HD_shift, upTo_succ]
     simp only [List.zip_cons_cons]
     refine ⟨f.dst, ?_, fun he => ?_, f.idle, f.lo, f.mid, f.hi, ?_⟩
     · rw [e1]; exact f.want
     · rw [e1, e2]; exact f.run he
     · rw [e2]; exact f.dom
  · intro i j o1 ρ1 o2 ρ2 hij hi hj
    cases j with
    | zero => omega
    | succ j =>
     cases i with
     | zero =>
      simp only [List.zip_cons_cons, List.getElem?_cons_zero, Option.some.injEq, Prod.mk.injEq] at hi
      obtain ⟨rfl, rfl⟩ := hi
      exact (i5 j o2 ρ2 (by simpa using hj)).lo
     | succ i => exact i6 i j o1 ρ1 o2 ρ2 (by omega) (by simpa using hi) (by simpa using hj)
end Go.Am
/- The abstract machine: a region that draws its order. -/
namespace Go.Am
variable {P : Program} {ω : Nat → Value}
/- What stands ahead of what. -/
theorem bef1_bit {bs : List Nat} {o : Oper} {k : Nat} (h : (bef1 bs o).testBit k = true) : ∃ e ∈ o.after.toList, Region.binds .any e = true ∧ (k = e.on ∨ (bs.getD e.on 0).testBit k = true) := by
 unfold bef1 at h
 generalize o.after.toList = l at h
 have gen : ∀ (l : List Edge) (s : Nat), (l.foldl (fun s e => bif Region.binds .any e then s ||| 2 ^ e.on ||| bs.getD e.on 0 else s) s).testBit k = true → s.testBit k = true ∨ ∃ e ∈ l, Region.binds .any e = true ∧ (k = e.on ∨ (bs.getD e.on 0).testBit k = true) := by
  intro l
  induction l with
  | nil => intro s h; exact .inl h
  | cons e l ih =>
   intro s h
   rcases ih _ h with h1 | ⟨e', he', h1⟩
   · simp only [] at h1
     cases hb : Region.binds .any e with
     | false => rw [hb] at h1; exact .inl h1
     | true =>
      rw [hb] at h1
      simp only [cond_true, Nat.testBit_or, Bool.or_eq_true] at h1
      rcases h1 with (h1 | h1) | h1
      · exact .inl h1
      · rw [Nat.testBit_two_pow] at h1
        exact .inr ⟨e, by simp, hb, .inl (by have := of_decide_eq_true h1; omega)⟩
      · exact .inr ⟨e, by simp, hb, .inr h1⟩
   · exact .inr ⟨e', by simp [he'], h1⟩
 rcases gen l 0 h with h1 | h1
 · simp at h1
 · exact h1
theorem befAll_pre : ∀ (os : List Oper) (bs : List Nat) (i : Nat), i < bs.length → (befAll os bs)[i]? = bs[i]?
 | [], _, _, _ => rfl
 | o :: os, bs, i, h => by
  simp only [befAll]
  rw [befAll_pre os _ i (by simp; omega), List.getElem?_append_left h]
theorem befAll_at : ∀ (os : List Oper) (bs : List Nat) (i : Nat) (o : Oper), os[i]? = some o → (befAll os bs)[bs.length + i]? = some (bef1 ((befAll os bs).take (bs.length + i)) o)
 | [], _, _, _, h => by simp at h
 | o1 :: os, bs, 0, o, h => by
  simp only [List.getElem?_cons_zero, Option.some.injEq] at h
  subst h
  simp only [befAll, Nat.add_zero]
  rw [befAll_pre os _ _ (by simp)]
  have e : (befAll os (bs ++ [bef1 bs o1])).take bs.length = bs := by
   apply List.ext_getElem?
   intro j
   rw [List.getElem?_take]
   split
   · rename_i hj
     rw [befAll_pre os _ j (by simp; omega), List.getElem?_append_left hj]
   · rename_i hj
     rw [List.getElem?_eq_none (by omega)]
  rw [e]
  simp
 | o1 :: os, bs, i + 1, o, h => by
  simp only [befAll]
  have := befAll_at os (bs ++ [bef1 bs o1]) i o (by simpa using h)
  simp only [List.length_append, List.length_cons, List.length_nil] at this
  rw [show bs.length + (i + 1) = bs.length + (0 + 1) + i by omega]
  exact this
structure Static (all : List Oper) (bs : List Nat) : Prop where
 bit : ∀ (i : Nat) (o : Oper), all[i]? = some o → ∀ k, (bs.getD i 0).testBit k = true → ∃ e ∈ o.after.toList, Region.binds .any e = true ∧ (k = e.on ∨ (bs.getD e.on 0).testBit k = true)
 back : ∀ (i : Nat) (o : Oper), all[i]? = some o → ∀ e ∈ o.after.toList, Region.binds .any e = true → e.on < i
 pair : ∀ (i j : Nat) (o o' : Oper), i < j → all[i]? = some o → all[j]? = some o' → (bs.getD j 0).testBit i = true ∨ apartT all o o' = true
 guard : ∀ (i : Nat) (o : Oper) (g : Nat) (b : Bool), all[i]? = some o → o.guard = some (g, b) → (bs.getD i 0).testBit g = true
theorem staticRow_spec {all : List Oper} {b : Nat} {o : Oper} : ∀ (l : List Oper) (i : Nat), staticRow all b o l i = true → ∀ (j : Nat) (p : Oper), l[j]? = some p → b.testBit (i + j) = true ∨ apartT all p o = true
 | [], _, _, _, _, h => by simp at h
 | q :: l, i, hs, j, p, h => by
  simp only [staticRow, Bool.and_eq_true, Bool.or_eq_true] at hs
  cases j with
  | zero =>
   simp only [List.getElem?_cons_zero, Option.some.injEq] at h
   subst h
   simpa using hs.1
  | succ j =>
   have := staticRow_spec l (i + 1) hs.2 j p (by simpa using h)
   rwa [show i + 1 + j = i + (j + 1) by omega] at this
theorem staticOk_spec {all : List Oper} {bs : List Nat} : ∀ (os pre : List Oper) (j : Nat), staticOk all bs pre os j = true → pre.length = j →
  (∀ (k : Nat) (o : Oper), os[k]? = some o → (∀ e ∈ o.after.toList, Region.binds .any e = true → e.on < j + k) ∧ (∀ g b, o.guard = some (g, b) → (bs.getD (j + k) 0).testBit g = true) ∧
   (∀ (i : Nat) (p : Oper), i < j + k → (pre ++ os)[i]? = some p → (bs.getD (j + k) 0).testBit i = true ∨ apartT all p o = true))
 | [], _, _, _, _, k, o, h => by simp at h
 | o1 :: os, pre, j, hs, hl, k, o, h => by
  simp only [staticOk, Bool.and_eq_true] at hs
  obtain ⟨⟨⟨h1, h2⟩, h3⟩, h4⟩ := hs
  cases k with
  | zero =>
   simp only [List.getElem?_cons_zero, Option.some.injEq] at h
   subst h
   refine ⟨fun e he hb => ?_, fun g b hg => ?_, fun i p hi hp => ?_⟩
   · have := List.all_eq_true.1 h2 e he
     simp only [hb, Bool.not_true, Bool.false_or] at this
     rw [Nat.blt_eq] at this
     simpa using this
   · rw [hg] at h3; simpa using h3
   · have : pre[i]? = some p := by
       rw [List.getElem?_append_left (by omega)] at hp
       exact hp
     have := staticRow_spec pre 0 h1 i p this
     simpa using this
  | succ k =>
   have := staticOk_spec os (pre ++ [o1]) (j + 1) h4 (by simp [hl]) k o (by simpa using h)
   rw [show j + 1 + k = j + (k + 1) by omega] at this
   simpa using this
theorem static_of {all : List Oper} (h : staticOk all (befAll all []) [] all 0 = true) : Static all (befAll all []) := by
 have hs := staticOk_spec all [] 0 h rfl
 have hback : ∀ (i : Nat) (o : Oper), all[i]? = some o → ∀ e ∈ o.after.toList, Region.binds .any e = true → e.on < i := fun i o ho e he hb => by
  have := (hs i o ho).1 e he hb
  omega
 refine ⟨?_, hback, ?_, ?_⟩
 · intro i o ho k hk
   have hat := befAll_at all [] i o ho
   simp only [List.length_nil, Nat.zero_add] at hat
   have e1 : (befAll all []).getD i 0 = bef1 ((befAll all []).take i) o := by simp [List.getD_eq_getElem?_getD, hat]
   rw [e1] at hk
   obtain ⟨e, he, hb, h1⟩ := bef1_bit hk
   refine ⟨e, he, hb, ?_⟩
   rcases h1 with h1 | h1
   · exact .inl h1
   · right
     have hlt := hback i o ho e he hb
     rw [← h1]
     congr 1
     simp [List.getD_eq_getElem?_getD, hlt]
 · intro i j o o' hij ho ho'
   have := (hs j o' ho').2.2 i o (by omega) (by simpa using ho)
   simpa using this
 · intro i o g b ho hg
   have := (hs i o ho).2.1 g b hg
   simpa using this
theorem Static.lt {all : List Oper} {bs : List Nat} (s : Static all bs) : ∀ (i : Nat) (o : Oper), all[i]? = some o → ∀ k, (bs.getD i 0).testBit k = true → k < i := by
 intro i
 induction i using Nat.strongRecOn with
 | _ i ih =>
  intro o ho k hk
  obtain ⟨e, he, hb, h1⟩ := s.bit i o ho k hk
  have hlt := s.back i o ho e he hb
  rcases h1 with rfl | h1
  · exact hlt
  · have hilt : i < all.length := (List.getElem?_eq_some_iff.1 ho).1
    obtain ⟨o', ho'⟩ : ∃ o', all[e.on]? = some o' := ⟨all[e.on]'(by omega), by simp⟩
    have := ih e.on hlt o' ho' k h1
    omega
/- The feet. -/
def feet : Nat → List Rec → List Foot → List Foot
 | _, [], acc => acc
 | i, ρ :: l, acc => feet (i + 1) l (if ρ.ex then ⟨i, ρ.rs, ρ.ups.map (·.1)⟩ :: acc else acc)
theorem feet_spec {bs : List Nat} : ∀ (l : List Rec) (i : Nat) (acc : List Foot), footsOk bs (feet i l acc) = true → footsOk bs acc = true ∧
  (∀ (j : Nat) (ρ : Rec), l[j]? = some ρ → ρ.ex = true → ∀ g ∈ acc, (bs.getD (i + j) 0).testBit g.i = true ∨ apartF ⟨i + j, ρ.rs, ρ.ups.map (·.1)⟩ g = true) ∧
  (∀ (j k : Nat) (ρ σ : Rec), j < k → l[j]? = some ρ → l[k]? = some σ → ρ.ex = true → σ.ex = true → (bs.getD (i + k) 0).testBit (i + j) = true ∨ apartF ⟨i + k, σ.rs, σ.ups.map (·.1)⟩ ⟨i + j, ρ.rs, ρ.ups.map (·.1)⟩ = true)
 | [], i, acc, h => ⟨h, fun j ρ hj => by simp at hj, fun j k ρ σ _ hj => by simp at hj⟩
 | ρ0 :: l, i, acc, h => by
  simp only [feet] at h
  obtain ⟨h1, h2, h3⟩ := feet_spec l (i + 1) _ h
  have e : ∀ j, i + 1 + j = i + (j + 1) := fun j => by omega
  by_cases hx : ρ0.ex = true
  · simp only [hx, if_true] at h1 h2
    simp only [footsOk, Bool.and_eq_true] at h1
    refine ⟨h1.2, ?_, ?_⟩
    · intro j ρ hj hex g hg
      cases j with
      | zero =>
       simp only [List.getElem?_cons_zero, Option.some.injEq] at hj
       subst hj
       have := List.all_eq_true.1 h1.1 g hg
       simpa using this
      | succ j =>
       have := h2 j ρ (by simpa using hj) hex g (by simp [hg])
       rwa [e] at this
    · intro j k ρ σ hjk hj hk hex hex'
      cases k with
      | zero => omega
      | succ k =>
       cases j with
       | zero =>
        simp only [List.getElem?_cons_zero, Option.some.injEq] at hj
        subst hj
        have := h2 k σ (by simpa using hk) hex' ⟨i, ρ0.rs, ρ0.ups.map (·.1)⟩ (by simp)
        rwa [e] at this
       | succ j =>
        have := h3 j k ρ σ (by omega) (by simpa using hj) (by simpa using hk) hex hex'
        rwa [e, e] at this
  · simp only [hx, Bool.false_eq_true, if_false] at h1 h2
    refine ⟨h1, ?_, ?_⟩
    · intro j ρ hj hex g hg
      cases j with
      | zero =>
       simp only [List.getElem?_cons_zero, Option.some.injEq] at hj
       subst hj
       exact absurd hex hx
      | succ j =>
       have := h2 j ρ (by simpa using hj) hex g hg
       rwa [e] at this
    · intro j k ρ σ hjk hj hk hex hex'
      cases k with
      | zero => omega
      | succ k =>
       cases j with
       | zero =>
        simp only [List.getElem?_cons_zero, Option.some.injEq] at hj
        subst hj
        exact absurd hex hx
       | succ j =>
        have := h3 j k ρ σ (by omega) (by simpa using hj) (by simpa using hk) hex hex'
        rwa [e, e] at this
theorem overlap_false {a b : List Nat} (h : overlap a b = false) : ∀ x ∈ a, x ∉ b := by
 induction a with
 | nil => intro x hx; cases hx
 | cons y a ih =>
  simp only [overlap, Bool.or_eq_false_iff] at h
  intro x hx hb
  rcases List.mem_cons.1 hx with rfl | hx
  · rw [(memN_iff x b).2 hb] at h; exact absurd h.1 (by simp)
  · exact ih h.2 x hx hb
theorem apartF_spec {a b : Foot} (h : apartF a b = true) : (∀ x ∈ a.writes, x ∉ b.writes) ∧ (∀ x ∈ a.writes, x ∉ b.reads) ∧ (∀ x ∈ a.reads, x ∉ b.writes) := by
 simp only [apartF, Bool.and_eq_true, Bool.not_eq_true'] at h
 exact ⟨overlap_false h.1.1, overlap_false h.1.2, overlap_false h.2⟩
def looks (all : List Oper) (o : Oper) : List Nat := (match o.guard with
  | some (g, _) => match nth? all g with
   | some og => match og.dst with
    | some d => [d]
    | none => []
   | none => []
  | none => []) ++ tmpsOf o.op.operands.toList
theorem apartT_spec {all : List Oper} {x y : Oper} (h : apartT all x y = true) : (∀ d, x.dst = some d → d ∉ looks all y ∧ y.dst ≠ some d) ∧ (∀ d, y.dst = some d → d ∉ looks all x) := by
 simp only [apartT, Bool.and_eq_true] at h
 constructor
 · intro d hd
   have h1 := h.1
   rw [hd] at h1
   simp only [Bool.and_eq_true, Bool.not_eq_true'] at h1
   refine ⟨fun hm => ?_, fun hy => ?_⟩
   · have : memN d (looks all y) = true := (memN_iff _ _).2 hm
     rw [show memN d (looks all y) = false from h1.1] at this
     cases this
   · rw [hy] at h1
     have := h1.2
     simp only [Bool.not_eq_true'] at this
     rw [nb_t rfl] at this
     cases this
 · intro d hd hm
   have h2 := h.2
   rw [hd] at h2
   simp only [Bool.not_eq_true'] at h2
   have : memN d (looks all x) = true := (memN_iff _ _).2 hm
   rw [show memN d (looks all x) = false from h2] at this
   cases this
theorem tmpsOf_mem : ∀ {l : List Operand} {t : Nat}, .tmp t ∈ l → t ∈ tmpsOf l
 | [], _, h => by cases h
 | x :: l, t, h => by
  rcases List.mem_cons.1 h with rfl | h
  · simp [tmpsOf]
  · have ih := tmpsOf_mem h
    cases x <;> simp only [tmpsOf] <;> first | exact List.mem_cons.2 (.inr ih) | exact ih
def cnt (D : Nat → Bool) : Nat → Nat
 | 0 => 0
 | n + 1 => cnt D n + if D n then 0 else 1
theorem cnt_zero {D : Nat → Bool} : ∀ {n : Nat}, cnt D n = 0 → ∀ i, i < n → D i = true
 | 0, _, _, h => by omega
 | n + 1, h, i, hi => by
  simp only [cnt] at h
  rcases Nat.lt_succ_iff_lt_or_eq.1 hi with h1 | rfl
  · exact cnt_zero (by omega) i h1
  · cases hd : D i with
    | true => rfl
    | false => simp [hd] at h
theorem cnt_le {D D' : Nat → Bool} : ∀ {n : Nat}, (∀ i, i < n → D i = true → D' i = true) → cnt D' n ≤ cnt D n
 | 0, _ => Nat.le_refl _
 | n + 1, h => by
  have ih := cnt_le (n := n) (fun i hi => h i (by omega))
  simp only [cnt]
  cases hd : D n with
  | true => simp [h n (by omega) hd]; exact ih
  | false => cases D' n <;> simp <;> omega
theorem cnt_lt {D D' : Nat → Bool} : ∀ {n i : Nat}, (∀ j, j < n → D j = true → D' j = true) → i < n → D i = false → D' i = true → cnt D' n < cnt D n
 | 0, _, _, h, _, _ => by omega
 | n + 1, i, h, hi, h1, h2 => by
  simp only [cnt]
  rcases Nat.lt_succ_iff_lt_or_eq.1 hi with h3 | rfl
  · have := cnt_lt (n := n) (fun j hj => h j (by omega)) h3 h1 h2
    cases hd : D n with
    | true => simp [h n (by omega) hd]; exact this
    | false => cases D' n <;> simp <;> omega
  · have := cnt_le (n := i) (fun j hj => h j (by omega))
    simp [h1, h2]; omega
theorem ready_iff {ops : Array Oper} {listed : Array Bool} {i : Nat} : i ∈ Region.ready .any ops listed ↔ i < ops.size ∧ listed.getD i true = false ∧ ∃ o, ops[i]? = some o ∧ ∀ e ∈ o.after, Region.binds .any e = true → listed.getD e.on false = true := by
 unfold Region.ready
 simp only [List.mem_filter, List.mem_range, Bool.and_eq_true, Bool.not_eq_true']
 constructor
 · rintro ⟨h1, h2, h3⟩
   refine ⟨h1, h2, ops[i], by simp [h1], ?_⟩
   have e : ops[i]? = some ops[i] := by simp [h1]
   rw [e] at h3
   simp only [Option.map_some, Option.getD_some, Array.all_eq_true'] at h3
   intro x hx hb
   have := h3 x hx
   simpa [hb] using this
 · rintro ⟨h1, h2, o, ho, h3⟩
   refine ⟨h1, h2, ?_⟩
   rw [ho]
   simp only [Option.map_some, Option.getD_some, Array.all_eq_true']
   intro x hx
   cases hb : Region.binds .any x with
   | false => rfl
   | true => simpa using h3 x hx hb
theorem any_sound {κ : Nat → Option CSumm} (hκ : KOk P κ) {all : List Oper} {n : Nat} {T0 T' : Nat → SV} {h0 h' : HpF} {nxs nx0 nx' : Nat} {recs : List Rec} {hs : HpF} {ws : World} {Ims : Nat → Prop} {θs : Th} {ro : Option Nat} {ds : List Deferred} {Q : Exit → Act → World → Prop}
  (ht : Txt P κ all n all T0 h0 nx0 recs T' h' nx') (hdom0 : ∀ x c, h0 x = some c → x < nx0) (hnx : nxs ≤ nx0) {bs : List Nat} (st : Static all bs) (hf : footsOk bs (feet 0 recs []) = true)
  (hQ : ∀ a' w' Im' θ', a'.defers = ds → SimF P ω n T' h' a' w' Im' θ' → Fr nx' θ' h' → nxs ≤ nx' → Ext (fun x => nxs ≤ x) hs ws Ims θs h' w' Im' θ' → Q .normal a' w') :
  ∀ (fuel : Nat) (D : Nat → Bool) (listed : Array Bool) (a : Act) (w : World) (Im : Nat → Prop) (θ : Th), cnt D all.length ≤ fuel → listed.size = all.length → (∀ i, i < all.length → listed[i]? = some (D i)) → (∀ i, all.length ≤ i → D i = false) →
   (∀ i, D i = true → ∀ k, (bs.getD i 0).testBit k = true → D k = true) → a.defers = ds → SimF P ω n (TD (all.zip recs) D 0 T0) (HD (all.zip recs) D 0 h0) a w Im θ →
   (∀ x, (θ x ≠ none ∨ HD (all.zip recs) D 0 h0 x ≠ none) → x < nx0 ∨ ∃ (j : Nat) (o : Oper) (ρ : Rec), D j = true ∧ (all.zip recs)[j]? = some (o, ρ) ∧ ρ.nx0 ≤ x ∧ x < ρ.nx1) →
   Ext (fun x => nxs ≤ x) hs ws Ims θs (HD (all.zip recs) D 0 h0) w Im θ → wpAnyIn (FR ro) 0 P .any all.toArray Q fuel listed a w := by
 obtain ⟨hlen, hnn, rfl, rfl, hfact, hord⟩ := txt_facts ht hdom0
 obtain ⟨-, -, hfeet⟩ := feet_spec recs 0 [] hf
 have hzip : ∀ i, i < all.length → ∃ o ρ, (all.zip recs)[i]? = some (o, ρ) ∧ all[i]? = some o ∧ recs[i]? = some ρ := by
  intro i hi
  refine ⟨all[i], recs[i], ?_, by simp [hi], by simp [hlen, hi]⟩
  simp [hi, hlen]
 have hzipr : ∀ (i : Nat) (o : Oper) (ρ : Rec), (all.zip recs)[i]? = some (o, ρ) → all[i]? = some o ∧ recs[i]? = some ρ ∧ i < all.length := by
  intro i o ρ h
  rw [List.getElem?_zip_eq_some] at h
  exact ⟨h.1, h.2, (List.getElem?_eq_some_iff.1 h.1).1⟩
 -- the end
 have hend : ∀ (D : Nat → Bool) (a : Act) (w : World) (Im : Nat → Prop) (θ : Th), (∀ i, i < all.length → D i = true) → a.defers = ds → SimF P ω n (TD (all.zip recs) D 0 T0) (HD (all.zip recs) D 0 h0) a w Im θ →
   (∀ x, (θ x ≠ none ∨ HD (all.zip recs) D 0 h0 x ≠ none) → x < nx0 ∨ ∃ (j : Nat) (o : Oper) (ρ : Rec), D j = true ∧ (all.zip recs)[j]? = some (o, ρ) ∧ ρ.nx0 ≤ x ∧ x < ρ.nx1) →
   Ext (fun x => nxs ≤ x) hs ws Ims θs (HD (all.zip recs) D 0 h0) w Im θ → Q .normal a w := by
  intro D a w Im θ hall hdf hS hfr hE
  have eT : TD (all.zip recs) D 0 T0 = TD (all.zip recs) (fun _ => true) 0 T0 := by
   funext t
   refine TD_congr _ _ _ 0 _ _ t rfl (fun j o ρ hj _ => ?_)
   simp only [Nat.zero_add]
   exact hall j (hzipr j o ρ hj).2.2
  have eH : HD (all.zip recs) D 0 h0 = HD (all.zip recs) (fun _ => true) 0 h0 := by
   funext x
   refine HD_congr _ _ _ 0 _ _ x rfl (fun j o ρ hj _ => ?_)
   simp only [Nat.zero_add]
   exact hall j (hzipr j o ρ hj).2.2
  rw [eT, eH] at hS
  rw [eH] at hE hfr
  refine hQ a w Im θ hdf hS (fun x hx => ?_) (by omega) hE
  constructor
  · cases hθ : θ x with
    | none => rfl
    | some p =>
     rcases hfr x (.inl (by simp [hθ])) with h1 | ⟨j, o, ρ, -, hj, h1, h2⟩
     · omega
     · have := (hfact j o ρ hj).hi; omega
  · cases hh : HD (all.zip recs) (fun _ => true) 0 h0 x with
    | none => rfl
    | some p =>
     rcases hfr x (.inr (by simp [hh])) with h1 | ⟨j, o, ρ, -, hj, h1, h2⟩
     · omega
     · have := (hfact j o ρ hj).hi; omega
 -- where nothing is ready all is done
 have hdone : ∀ (D : Nat → Bool) (listed : Array Bool), listed.size = all.length → (∀ i, i < all.length → listed[i]? = some (D i)) → Region.ready .any all.toArray listed = [] → ∀ i, i < all.length → D i = true := by
  intro D listed hsz hl hr i
  induction i using Nat.strongRecOn with
  | _ i ih =>
   intro hi
   cases hd : D i with
   | true => rfl
   | false =>
    have : i ∈ Region.ready .any all.toArray listed := by
     rw [ready_iff]
     obtain ⟨o, ρ, -, ho, -⟩ := hzip i hi
     refine ⟨by simpa using hi, by simp [Array.getD_eq_getD_getElem?, hl i hi, hd], o, by simpa using ho, fun e he hb => ?_⟩
     have hlt := st.back i o ho e (by simpa using he) hb
     simp [Array.getD_eq_getD_getElem?, hl e.on (by omega), ih e.on hlt (by omega)]
    rw [hr] at this
    cases this
 intro fuel
 induction fuel with
 | zero =>
  intro D listed a w Im θ hc hsz hl hout hcl hdf hS hfr hE
  have hall := cnt_zero (Nat.le_zero.1 hc)
  refine ⟨?_, hend D a w Im θ hall hdf hS hfr hE⟩
  cases hr : Region.ready .any all.toArray listed with
  | nil => rfl
  | cons i l =>
   have hm : i ∈ Region.ready .any all.toArray listed := by rw [hr]; simp
   rw [ready_iff] at hm
   obtain ⟨h1, h2, -⟩ := hm
   have h1' : i < all.length := by simpa using h1
   simp [Array.getD_eq_getD_getElem?, hl i h1', hall i h1'] at h2
 | succ fuel ih =>
  intro D listed a w Im θ hc hsz hl hout hcl hdf hS hfr hE
  refine ⟨fun hr => hend D a w Im θ (hdone D listed hsz hl hr) hdf hS hfr hE, fun i hi => ?_⟩
  rw [ready_iff] at hi
  obtain ⟨hi1, hi2, o, ho, hedges⟩ := hi
  have hin : i < all.length := by simpa using hi1
  have hDi : D i = false := by simpa [Array.getD_eq_getD_getElem?, hl i hin] using hi2
  obtain ⟨o', ρ, hz, ho', hρ⟩ := hzip i hin
  have : o' = o := by
   have h1 : all.toArray[i]? = some o' := by simpa using ho'
   rw [h1] at ho; exact Option.some.inj ho
  subst this
  have f := hfact i o' ρ hz
  -- what stands ahead is done
  have hpre : ∀ k, (bs.getD i 0).testBit k = true → D k = true := by
   intro k hk
   obtain ⟨e, he, hb, h1⟩ := st.bit i o' ho' k hk
   have hlt := st.back i o' ho' e he hb
   have hon := hedges e (by simpa using he) hb
   have hDe : D e.on = true := by simpa [Array.getD_eq_getD_getElem?, hl e.on (by omega)] using hon
   rcases h1 with rfl | h1
   · exact hDe
   · exact hcl e.on hDe k h1
  have hpost : ∀ j, D j = true → (bs.getD j 0).testBit i = true → False := by
   intro j hj hb
   rw [hcl j hj i hb] at hDi; cases hDi
  -- where a place is met by this one, the others agree with the order of the text
  have agree : ∀ (j : Nat) (o2 : Oper) (ρ2 : Rec), (all.zip recs)[j]? = some (o2, ρ2) → j ≠ i → (j < i → (bs.getD i 0).testBit j = true ∨ D j = upTo i j) → (i < j → (bs.getD j 0).testBit i = true ∨ D j = upTo i j) → D j = upTo i j := by
   intro j o2 ρ2 hj hne h1 h2
   rcases Nat.lt_or_gt_of_ne hne with hlt | hgt
   · rcases h1 hlt with h | h
     · rw [hpre j h, upTo_iff.2 hlt]
     · exact h
   · rcases h2 hgt with h | h
     · have : D j = false := by
         cases hd : D j with
         | false => rfl
         | true => exact (hpost j hd h).elim
       rw [this, upTo_false.2 (by omega)]
     · exact h
  have aT : ∀ t ∈ looks all o', TD (all.zip recs) D 0 T0 t = TD (all.zip recs) (upTo i) 0 T0 t := by
   intro t htl
   refine TD_congr _ _ _ 0 _ _ t rfl (fun j o2 ρ2 hj hd => ?_)
   simp only [Nat.zero_add]
   obtain ⟨g1, g2, g3⟩ := hzipr j o2 ρ2 hj
   by_cases hji : j = i
   · subst hji; rw [hDi, upTo_false.2 (by omega)]
   · refine agree j o2 ρ2 hj hji (fun hlt => ?_) (fun hgt => ?_)
     · rcases st.pair j i o2 o' hlt g1 ho' with h | h
       · exact .inl h
       · exact absurd htl ((apartT_spec h).1 t hd).1
     · rcases st.pair i j o' o2 hgt ho' g1 with h | h
       · exact .inl h
       · exact absurd htl ((apartT_spec h).2 t hd)
  have aH : ρ.ex = true → ∀ x, (x ∈ ρ.rs ∨ x ∈ ρ.ups.map (·.1)) → HD (all.zip recs) D 0 h0 x = HD (all.zip recs) (upTo i) 0 h0 x := by
   intro hex x hx
   refine HD_congr _ _ _ 0 _ _ x rfl (fun j o2 ρ2 hj hk => ?_)
   simp only [Nat.zero_add]
   obtain ⟨g1, g2, g3⟩ := hzipr j o2 ρ2 hj
   have hex2 : ρ2.ex = true := by
    cases he : ρ2.ex with
    | true => rfl
    | false => rw [((hfact j o2 ρ2 hj).idle he).2.1] at hk; cases hk
   by_cases hji : j = i
   · subst hji; rw [hDi, upTo_false.2 (by omega)]
   · refine agree j o2 ρ2 hj hji (fun hlt => ?_) (fun hgt => ?_)
     · have := hfeet j i ρ2 ρ hlt g2 hρ hex2 hex
       simp only [Nat.zero_add] at this
       rcases this with h | h
       · exact .inl h
       · obtain ⟨w1, w2, w3⟩ := apartF_spec h
         rcases hx with hx | hx
         · exact absurd hk (w3 x hx)
         · exact absurd hk (w1 x hx)
     · have := hfeet i j ρ ρ2 hgt hρ g2 hex hex2
       simp only [Nat.zero_add] at this
       rcases this with h | h
       · exact .inl h
       · obtain ⟨w1, w2, w3⟩ := apartF_spec h
         rcases hx with hx | hx
         · exact absurd hx (w2 x hk)
         · exact absurd hx (w1 x hk)
  have hcl' : ∀ j, (D j || j == i) = true → ∀ k, (bs.getD j 0).testBit k = true → (D k || k == i) = true := by
   intro j hj k hk
   simp only [Bool.or_eq_true, beq_iff_eq] at hj ⊢
   rcases hj with hj | rfl
   · exact .inl (hcl j hj k hk)
   · exact .inl (hpre k hk)
  have hcnt : cnt (fun j => D j || j == i) all.length ≤ fuel := by
   have := cnt_lt (D := D) (D' := fun j => D j || j == i) (n := all.length) (i := i) (fun j _ hj => by simp [hj]) hin hDi (by simp)
   omega
  have hl' : ∀ j, j < all.length → (listed.setIfInBounds i true)[j]? = some (D j || j == i) := by
   intro j hj
   rw [Array.getElem?_setIfInBounds]
   by_cases hij : i = j
   · subst hij; simp [hsz, hj]
   · have : (j == i) = false := by simpa using Ne.symm hij
     simp [hij, hl j hj, this]
  have hout' : ∀ j, all.length ≤ j → (D j || j == i) = false := by
   intro j hj
   simp [hout j hj]; omega
  have hTadd : TD (all.zip recs) (fun j => D j || j == i) 0 T0 = updT (TD (all.zip recs) D 0 T0) o'.dst ρ.r := by
   have := TD_add (all.zip recs) D 0 i T0 o' ρ hz (by simpa using hDi) (fun j o2 ρ2 hij hj hDj d hd => by
    simp only [Nat.zero_add] at hDj
    obtain ⟨g1, -, -⟩ := hzipr j o2 ρ2 hj
    rcases st.pair i j o' o2 hij ho' g1 with h | h
    · exact (hpost j hDj h).elim
    · exact ((apartT_spec h).1 d hd).2)
   simpa using this
  have hHadd : HD (all.zip recs) (fun j => D j || j == i) 0 h0 = updF ρ.ups (HD (all.zip recs) D 0 h0) := by
   have := HD_add (all.zip recs) D 0 i h0 o' ρ hz (by simpa using hDi) (fun j o2 ρ2 hij hj hDj x hx hx2 => by
    simp only [Nat.zero_add] at hDj
    obtain ⟨g1, g2, -⟩ := hzipr j o2 ρ2 hj
    have hex : ρ.ex = true := by
     cases he : ρ.ex with
     | true => rfl
     | false => rw [(f.idle he).2.1] at hx; cases hx
    have hex2 : ρ2.ex = true := by
     cases he : ρ2.ex with
     | true => rfl
     | false => rw [((hfact j o2 ρ2 hj).idle he).2.1] at hx2; cases hx2
    have := hfeet i j ρ ρ2 hij hρ g2 hex hex2
    simp only [Nat.zero_add] at this
    rcases this with h | h
    · exact hpost j hDj h
    · exact (apartF_spec h).1 x hx2 hx)
   simpa using this
  have hwT : wantedT all n (TD (all.zip recs) D 0 T0) o' = some ρ.ex := by
   rw [← f.want]
   unfold wantedT
   cases hg : o'.guard with
   | none => rfl
   | some p =>
    obtain ⟨g, b⟩ := p
    simp only []
    cases hag : all[g]? with
    | none => rfl
    | some og =>
     simp only []
     cases hod : og.dst with
     | none => rfl
     | some d =>
      simp only []
      rw [aT d (by simp [looks, hg, nth?_eq, hag, hod])]
  unfold wpOpIn
  simp only [List.getElem?_toArray, ho']
  rw [wanted_eq hS hwT]
  cases hex : ρ.ex with
  | false =>
   simp only [Bool.false_eq_true, if_false]
   obtain ⟨e1, e2, -, -⟩ := f.idle hex
   rw [e1] at hTadd
   rw [e2] at hHadd
   simp only [updF] at hHadd
   refine ⟨fun f _ => FR_fn ro f, ih (fun j => D j || j == i) _ _ w Im θ hcnt (by simpa using hsz) hl' hout' hcl' (by rw [put_defers]; exact hdf) ?_ ?_ ?_⟩
   · rw [hTadd, hHadd]; exact hS.skip f.dst
   · rw [hHadd]
     intro x hx
     rcases hfr x hx with h1 | ⟨j, o2, ρ2, hj, h2⟩
     · exact .inl h1
     · exact .inr ⟨j, o2, ρ2, by simp [hj], h2⟩
   · rw [hHadd]; exact hE
  | true =>
   simp only [if_true]
   have hrun := f.run hex
   have hrun1 : mrun (HD (all.zip recs) D 0 h0) (opM P κ o' (evT (TD (all.zip recs) D 0 T0)) ρ.nx0) = some (ρ.r, ρ.ups, ρ.nx1, ρ.rs) := by
    have e : opM P κ o' (evT (TD (all.zip recs) D 0 T0)) ρ.nx0 = opM P κ o' (evT (TD (all.zip recs) (upTo i) 0 T0)) ρ.nx0 := by
     refine opM_congr (fun x hx => ?_) _
     cases x with
     | tmp t =>
      simp only [evT]
      exact aT t (by simp only [looks, List.mem_append]; exact .inr (tmpsOf_mem (by simpa using hx)))
     | _ => rfl
    rw [e]
    exact mrun_congr _ _ hrun (fun x hx => aH hex x (.inl hx))
   obtain ⟨hle, hkeys⟩ := opM_wf hrun
   have hfresh : ∀ x, ρ.nx0 ≤ x → x < ρ.nx1 → θ x = none ∧ HD (all.zip recs) D 0 h0 x = none := by
    intro x h1 h2
    have key : ¬ (θ x ≠ none ∨ HD (all.zip recs) D 0 h0 x ≠ none) := by
     intro hh
     rcases hfr x hh with h3 | ⟨j, o2, ρ2, hj, hj2, h3, h4⟩
     · have := f.lo; omega
     · rcases Nat.lt_trichotomy i j with h5 | h5 | h5
       · have := hord i j o' ρ o2 ρ2 h5 hz hj2; omega
       · subst h5; rw [hDi] at hj; cases hj
       · have := hord j i o2 ρ2 o' ρ h5 hj2 hz; omega
    constructor
    · cases hθ : θ x with
      | none => rfl
      | some p => exact (key (.inl (by simp [hθ]))).elim
    · cases hθ : HD (all.zip recs) D 0 h0 x with
      | none => rfl
      | some p => exact (key (.inr (by simp [hθ]))).elim
   refine op_good hκ hS.hp (fun x _ => hS.eval x) hfresh hrun1 ro _ _ (fun v w' Im' θ' hE' hv hH => ?_)
   have hS' := hS.step f.dst hE' hv hH
   refine ih (fun j => D j || j == i) _ _ w' Im' θ' hcnt (by simpa using hsz) hl' hout' hcl' (by rw [put_defers]; exact hdf) ?_ ?_ ?_
   · rw [hTadd, hHadd]; exact hS'
   · rw [hHadd]
     intro x hx
     by_cases hnew : ρ.nx0 ≤ x ∧ x < ρ.nx1
     · exact .inr ⟨i, o', ρ, by simp, hz, hnew.1, hnew.2⟩
     · have hx' : θ x ≠ none ∨ HD (all.zip recs) D 0 h0 x ≠ none := by
         rcases hx with hx | hx
         · rw [hE'.thOld x hnew] at hx; exact .inl hx
         · right
           by_cases hxk : x ∈ ρ.ups.map (·.1)
           · obtain ⟨p, hp, rfl⟩ := List.mem_map.1 hxk
             rcases hkeys p hp with h1 | h1
             · obtain ⟨c, hc⟩ := mrun_reads _ _ hrun1 p.1 h1
               simp [hc]
             · exact absurd h1 hnew
           · rwa [updF_not hxk] at hx
       rcases hfr x hx' with h1 | ⟨j, o2, ρ2, hj, h2⟩
       · exact .inl h1
       · exact .inr ⟨j, o2, ρ2, by simp [hj], h2⟩
   · rw [hHadd]
     exact hE.trans (hE'.mono (fun x hx => by have := f.lo; omega))
end Go.Am
/- The abstract machine: a region whose guards are not decided. -/
namespace Go.Am
variable {P : Program} {ω : Nat → Value}
structure StOk (s : St) : Prop where
 size : s.size < 16000
 nx : s.nx < 1000000
 out : ∀ t, s.size ≤ t → s.tmp t = .junk
 dom : ∀ x c, s.hp.get x = some c → x < s.nx
 m : s.m ≤ s.nx
theorem evT_ev (s : St) : s.ev = evT s.tmp := by
 funext x; cases x <;> rfl
theorem tmp_put {s : St} {dst : Option Nat} {v : SV} (h : dstN s.size dst) (hs : s.size < 16000) : (s.put dst v).tmp = updT s.tmp dst v := by
 cases dst with
 | none => rfl
 | some d =>
  funext t
  simp only [St.put, St.tmp, updT]
  rw [Tr.get_set 14 s.tm d (some v) t (by simp only [dstN] at h; omega)]
  by_cases e : t = d <;> simp [e]
def holds (T : Nat → SV) (L : Chain) : Prop := ∀ p ∈ L, T p.1 = .bool p.2
structure Inv (env : List (Nat × Chain)) (Ta Ts : Nat → SV) : Prop where
 out : ∀ t, chainOf env t = none → Ta t = Ts t
 yes : ∀ t L, chainOf env t = some L → holds Ta L → Ta t = Ts t
 no : ∀ t L, chainOf env t = some L → ¬ holds Ta L → Ta t = .tup []
 guards : ∀ t L, chainOf env t = some L → ∀ p ∈ L, ∃ c, chainOf env p.1 = some c
theorem eqChain_eq : ∀ {a b : Chain}, eqChain a b = true → a = b
 | [], [], _ => rfl
 | [], _ :: _, h => by simp [eqChain] at h
 | _ :: _, [], h => by simp [eqChain] at h
 | (a, b) :: l, (c, d) :: m, h => by
  simp only [eqChain, Bool.and_eq_true, beq_iff_eq] at h
  rw [Nat.eq_of_beq_eq_true h.1.1, h.1.2, eqChain_eq h.2]
theorem endsIn_holds {T : Nat → SV} {a : Chain} : ∀ {b : Chain}, endsIn a b = true → holds T b → holds T a
 | [], h, hb => by
  simp only [endsIn] at h
  rw [eqChain_eq h]; exact hb
 | p :: l, h, hb => by
  simp only [endsIn, Bool.or_eq_true] at h
  rcases h with h | h
  · rw [eqChain_eq h]; exact hb
  · exact endsIn_holds h (fun q hq => hb q (by simp [hq]))
theorem underOk_eq {env : List (Nat × Chain)} {Ta Ts : Nat → SV} (inv : Inv env Ta Ts) {L : Chain} (hL : holds Ta L) : ∀ {l : List Operand}, underOk env L l = true → ∀ x ∈ l, evT Ta x = evT Ts x
 | [], _, _, hx => by cases hx
 | y :: l, h, x, hx => by
  rcases List.mem_cons.1 hx with rfl | hx
  · cases x with
    | tmp t =>
     simp only [underOk, Bool.and_eq_true] at h
     simp only [evT]
     cases hc : chainOf env t with
     | none => exact inv.out t hc
     | some c =>
      rw [hc] at h
      exact inv.yes t c hc (endsIn_holds h.1 hL)
    | _ => rfl
  · refine underOk_eq inv hL (l := l) ?_ x hx
    cases y <;> simp only [underOk, Bool.and_eq_true] at h <;> first | exact h.2 | exact h
theorem mspec_run {h : Tr Chunk} {nx : Nat} : ∀ {m : OpM} {r : SV}, mspec h nx m = some r → ∃ rs, mrun h.get m = some (r, [], nx, rs)
 | .done r0 ups nx0, r, hm => by
  simp only [mspec] at hm
  cases ups with
  | cons => cases hm
  | nil =>
   simp only [] at hm
   cases hb : Nat.beq nx0 nx with
   | false => simp [hb] at hm
   | true =>
    simp [hb] at hm
    subst hm
    rw [Nat.eq_of_beq_eq_true hb]
    exact ⟨[], rfl⟩
 | .get x f, r, hm => by
  simp only [mspec] at hm
  cases hx : h.get x with
  | none => simp [hx] at hm
  | some c =>
   simp only [hx] at hm
   obtain ⟨rs, hr⟩ := mspec_run hm
   exact ⟨x :: rs, by simp [mrun, hx, hr]⟩
 | .ite _ _ _, _, hm => by simp [mspec] at hm
 | .fail, _, hm => by simp [mspec] at hm
theorem mergeSV_eq {t : Bool} {a b r : SV} (h : mergeSV t a b = some r) : r = if t then a else b := by
 unfold mergeSV at h
 split at h
 · simp only [Option.some.injEq] at h; subst h; cases t <;> rfl
 · rename_i k x k' y
   cases hk : ikEq k k' with
   | false => simp [hk] at h
   | true =>
    simp [hk] at h
    have := ikEq_eq hk
    subst this
    subst h; cases t <;> rfl
 · simp only [Option.some.injEq] at h; subst h; cases t <;> rfl
 · cases h
theorem specOp_run {κ : Nat → Option CSumm} {o : Oper} {s : St} {r : SV} {env : List (Nat × Chain)} {L : Chain} {Ta : Nat → SV} (inv : Inv env Ta s.tmp) (hL : holds Ta L) (hu : opUnder env L o.op = true) (h : specOp P κ o s = some r) :
  ∃ rs, mrun s.hp.get (opM P κ o (evT Ta) s.nx) = some (r, [], s.nx, rs) := by
 by_cases hp : ∃ c a b, o.op = .pick c a b
 · obtain ⟨c, a, b, hop⟩ := hp
   obtain ⟨dst, op, type, pos, after, guard⟩ := o
   simp only at hop
   subst hop
   simp only [specOp] at h
   simp only [opM]
   rw [evT_ev] at h
   split at h
   · rename_i t ht
     have hr := mergeSV_eq h
     have key : evT Ta c = .bool t ∧ (t = true → evT Ta a = evT s.tmp a) ∧ (t = false → evT Ta b = evT s.tmp b) := by
      cases c with
      | tmp tc =>
       simp only [opUnder, Bool.and_eq_true] at hu
       have hc := underOk_eq inv hL hu.1.1 (.tmp tc) (by simp)
       rw [ht] at hc
       refine ⟨hc, fun e => ?_, fun e => ?_⟩
       · refine underOk_eq inv (L := (tc, true) :: L) ?_ hu.1.2 a (by simp)
         intro p hp
         rcases List.mem_cons.1 hp with rfl | hp
         · simp only [evT] at hc; rw [hc, e]
         · exact hL p hp
       · refine underOk_eq inv (L := (tc, false) :: L) ?_ hu.2 b (by simp)
         intro p hp
         rcases List.mem_cons.1 hp with rfl | hp
         · simp only [evT] at hc; rw [hc, e]
         · exact hL p hp
      | const v =>
       have g := underOk_eq inv hL (show underOk env L [.const v, a, b] = true by simpa [opUnder, Op.operands] using hu)
       exact ⟨ht, fun _ => g a (by simp), fun _ => g b (by simp)⟩
      | global v =>
       have g := underOk_eq inv hL (show underOk env L [.global v, a, b] = true by simpa [opUnder, Op.operands] using hu)
       exact ⟨ht, fun _ => g a (by simp), fun _ => g b (by simp)⟩
      | func v =>
       have g := underOk_eq inv hL (show underOk env L [.func v, a, b] = true by simpa [opUnder, Op.operands] using hu)
       exact ⟨ht, fun _ => g a (by simp), fun _ => g b (by simp)⟩
     simp only [opM0, key.1]
     simp only [mrun]
     cases t with
     | true => rw [key.2.1 rfl]; simp at hr; rw [hr]; exact ⟨[], rfl⟩
     | false => rw [key.2.2 rfl]; simp at hr; rw [hr]; exact ⟨[], rfl⟩
   · cases h
 · have hs : specOp P κ o s = mspec s.hp s.nx (opM P κ o s.ev s.nx) := by
     unfold specOp
     split
     · rename_i c a b hop; exact absurd ⟨c, a, b, hop⟩ hp
     · rfl
   rw [hs, evT_ev] at h
   obtain ⟨rs, hr⟩ := mspec_run h
   have hu' : underOk env L o.op.operands.toList = true := by
    unfold opUnder at hu
    split at hu
    · rename_i c a b hop; exact absurd ⟨_, a, b, hop⟩ hp
    · exact hu
   have e : opM P κ o (evT Ta) s.nx = opM P κ o (evT s.tmp) s.nx := opM_congr (fun x hx => underOk_eq inv hL hu' x (by simpa using hx)) _
   rw [e]
   exact ⟨rs, hr⟩
theorem chainOf_put {env : List (Nat × Chain)} {L : Chain} {d t : Nat} : chainOf (envPut env L (some d)) t = if t = d then some L else chainOf env t := by
 simp only [envPut, chainOf]
 by_cases e : t = d
 · subst e; rw [nb_t rfl]; simp
 · rw [nb_f (Ne.symm e)]; simp [e]
theorem specC_run {κ : Nat → Option CSumm} {all : List Oper} : ∀ (os : List Oper) (env env' : List (Nat × Chain)) (s s' : St) (Ta : Nat → SV), StOk s → specC P κ all os env s = some (env', s') → Inv env Ta s.tmp →
  ∃ recs Ta', Txt P κ all s.size os Ta s.hp.get s.nx recs Ta' s.hp.get s.nx ∧ (∀ ρ ∈ recs, ρ.ups = []) ∧ Inv env' Ta' s'.tmp ∧ StOk s' ∧ s'.size = s.size ∧ s'.hp = s.hp ∧ s'.nx = s.nx ∧ s'.m = s.m ∧ s'.dirty = s.dirty ∧
   (∀ p ∈ env', p ∈ env ∨ p.1 < s.size)
 | [], env, env', s, s', Ta, hs, h, inv => by
  simp only [specC, Option.some.injEq, Prod.mk.injEq] at h
  obtain ⟨rfl, rfl⟩ := h
  exact ⟨[], Ta, .nil, fun _ h => (by cases h), inv, hs, rfl, rfl, rfl, rfl, rfl, fun p hp => .inl hp⟩
 | o :: os, env, env', s, s', Ta, hs, h, inv => by
  simp only [specC] at h
  cases hc : specChain all env s o.guard with
  | none => simp [hc] at h
  | some L =>
   simp only [hc] at h
   cases hd : specDst env s o.dst && opUnder env L o.op with
   | false => simp [hd] at h
   | true =>
    simp only [hd, cond_true] at h
    simp only [Bool.and_eq_true] at hd
    cases hr : specOp P κ o s with
    | none => simp [hr] at h
    | some r =>
     simp only [hr] at h
     have hdN : dstN s.size o.dst := by
      have := hd.1
      cases hod : o.dst with
      | none => trivial
      | some d =>
       rw [hod] at this
       simp only [specDst, Bool.and_eq_true] at this
       have h1 := this.1
       rwa [Nat.blt_eq] at h1
     have hdE : ∀ d, o.dst = some d → chainOf env d = none := by
      intro d hod
      have := hd.1
      rw [hod] at this
      simp only [specDst, Bool.and_eq_true] at this
      cases hx : chainOf env d with
      | none => rfl
      | some c => rw [hx] at this; exact absurd this.2 (by simp)
     have htm := tmp_put (v := r) hdN hs.size
     have hs1 : StOk (s.put o.dst r) := by
      have e1 : (s.put o.dst r).size = s.size := by cases o.dst <;> rfl
      have e2 : (s.put o.dst r).nx = s.nx := by cases o.dst <;> rfl
      have e3 : (s.put o.dst r).hp = s.hp := by cases o.dst <;> rfl
      have e4 : (s.put o.dst r).m = s.m := by cases o.dst <;> rfl
      refine ⟨by rw [e1]; exact hs.size, by rw [e2]; exact hs.nx, ?_, by rw [e3, e2]; exact hs.dom, by rw [e4, e2]; exact hs.m⟩
      rw [e1, htm]
      intro t ht
      cases hod : o.dst with
      | none => simpa [updT] using hs.out t ht
      | some d =>
       rw [hod] at hdN
       have : t ≠ d := by intro e; subst e; simp only [dstN] at hdN; omega
       simp [updT, this, hs.out t ht]
     have esz : (s.put o.dst r).size = s.size := by cases o.dst <;> rfl
     have enx : (s.put o.dst r).nx = s.nx := by cases o.dst <;> rfl
     have ehp : (s.put o.dst r).hp = s.hp := by cases o.dst <;> rfl
     have em : (s.put o.dst r).m = s.m := by cases o.dst <;> rfl
     have edi : (s.put o.dst r).dirty = s.dirty := by cases o.dst <;> rfl
     -- the guard
     have hg : (∃ go, wantedT all s.size Ta o = some go ∧ (go = true → holds Ta L) ∧ (go = false → ¬ holds Ta L)) ∧ (∀ p ∈ L, ∃ c, chainOf env p.1 = some c) := by
      unfold specChain at hc
      unfold wantedT
      cases hgd : o.guard with
      | none =>
       rw [hgd] at hc
       simp only [Option.some.injEq] at hc
       subst hc
       exact ⟨⟨true, rfl, fun _ p hp => (by cases hp), fun h => (by cases h)⟩, fun p hp => (by cases hp)⟩
      | some jw =>
       obtain ⟨j, w⟩ := jw
       rw [hgd] at hc
       simp only [nth?_eq] at hc
       simp only []
       cases hj : all[j]? with
       | none => simp [hj] at hc
       | some oj =>
        simp only [hj] at hc ⊢
        cases hjd : oj.dst with
        | none => simp [hjd] at hc
        | some d =>
         simp only [hjd] at hc ⊢
         split at hc
         · rename_i c b hce hsb
           cases hlt : Nat.blt d s.size with
           | false => simp [hlt] at hc
           | true =>
            simp only [hlt, cond_true, Option.some.injEq] at hc
            subst hc
            have hdn : d < s.size := by rwa [Nat.blt_eq] at hlt
            simp only [hdn, if_true]
            constructor
            · by_cases hh : holds Ta c
              · have e := inv.yes d c hce hh
                rw [hsb] at e
                rw [e]
                refine ⟨b == w, rfl, fun hgo p hp => ?_, fun hgo hall => ?_⟩
                · rcases List.mem_cons.1 hp with rfl | hp
                  · simp only [beq_iff_eq] at hgo; rw [e, hgo]
                  · exact hh p hp
                · have := hall (d, w) (by simp)
                  rw [e] at this
                  simp only [SV.bool.injEq] at this
                  rw [this] at hgo
                  simp at hgo
              · have e := inv.no d c hce hh
                rw [e]
                exact ⟨false, rfl, fun h => (by cases h), fun _ hall => hh (fun p hp => hall p (by simp [hp]))⟩
            · intro p hp
              rcases List.mem_cons.1 hp with rfl | hp
              · exact ⟨c, hce⟩
              · exact inv.guards d c hce p hp
         · cases hc
     obtain ⟨⟨go, hw, hgo1, hgo2⟩, hguards⟩ := hg
     -- what is put keeps the invariant
     have hinv : ∀ v, (holds Ta L → v = r) → (¬ holds Ta L → v = .tup []) → Inv (envPut env L o.dst) (updT Ta o.dst v) (s.put o.dst r).tmp := by
      intro v hv1 hv2
      rw [htm]
      cases hod : o.dst with
      | none => exact inv
      | some d =>
       have hdn := hdE d hod
       have hne : ∀ p1, (∃ c, chainOf env p1 = some c) → p1 ≠ d := by
        rintro p1 ⟨c, hc⟩ rfl
        rw [hdn] at hc; cases hc
       have hsame : ∀ M : Chain, (∀ p ∈ M, ∃ c, chainOf env p.1 = some c) → (holds (updT Ta (some d) v) M ↔ holds Ta M) := by
        intro M hM
        constructor
        · intro hh p hp
          have := hh p hp
          simpa [updT, hne p.1 (hM p hp)] using this
        · intro hh p hp
          simpa [updT, hne p.1 (hM p hp)] using hh p hp
       refine ⟨?_, ?_, ?_, ?_⟩
       · intro t ht
         rw [chainOf_put] at ht
         by_cases e : t = d
         · simp [e] at ht
         · simp only [e, if_false] at ht
           simp [updT, e, inv.out t ht]
       · intro t M ht hh
         rw [chainOf_put] at ht
         by_cases e : t = d
         · simp only [e, if_true, Option.some.injEq] at ht
           subst ht
           rw [hsame L hguards] at hh
           simp [updT, e, hv1 hh]
         · simp only [e, if_false] at ht
           rw [hsame M (inv.guards t M ht)] at hh
           simp [updT, e, inv.yes t M ht hh]
       · intro t M ht hh
         rw [chainOf_put] at ht
         by_cases e : t = d
         · simp only [e, if_true, Option.some.injEq] at ht
           subst ht
           rw [hsame L hguards] at hh
           simp [updT, e, hv2 hh]
         · simp only [e, if_false] at ht
           rw [hsame M (inv.guards t M ht)] at hh
           simp [updT, e, inv.no t M ht hh]
       · intro t M ht p hp
         rw [chainOf_put] at ht
         have : ∃ c, chainOf env p.1 = some c := by
          by_cases e : t = d
          · simp only [e, if_true, Option.some.injEq] at ht
            subst ht
            exact hguards p hp
          · simp only [e, if_false] at ht
            exact inv.guards t M ht p hp
         obtain ⟨c, hc⟩ := this
         exact ⟨c, by rw [chainOf_put, if_neg (hne p.1 ⟨c, hc⟩)]; exact hc⟩
     have henv : ∀ p ∈ envPut env L o.dst, p ∈ env ∨ p.1 < s.size := by
      intro p hp
      cases hod : o.dst with
      | none => rw [hod] at hp; exact .inl hp
      | some d =>
       rw [hod] at hp hdN
       simp only [envPut, List.mem_cons] at hp
       rcases hp with rfl | hp
       · exact .inr hdN
       · exact .inl hp
     cases go with
     | true =>
      have hh := hgo1 rfl
      obtain ⟨rs, hm⟩ := specOp_run inv hh hd.2 hr
      obtain ⟨recs, Ta', ht, hups, hi, hs', g1, g2, g3, g4, g5, g6⟩ := specC_run os _ env' _ s' (updT Ta o.dst r) hs1 h (hinv r (fun _ => rfl) (fun hn => absurd hh hn))
      rw [esz, ehp, enx] at ht
      refine ⟨_ :: recs, Ta', .run hdN hw hm ht, ?_, hi, hs', by rw [g1, esz], by rw [g2, ehp], by rw [g3, enx], by rw [g4, em], by rw [g5, edi], fun p hp => ?_⟩
      · intro ρ hρ
        rcases List.mem_cons.1 hρ with rfl | hρ
        · rfl
        · exact hups ρ hρ
      · rcases g6 p hp with h1 | h1
        · exact henv p h1
        · exact .inr (by rwa [esz] at h1)
     | false =>
      have hh := hgo2 rfl
      obtain ⟨recs, Ta', ht, hups, hi, hs', g1, g2, g3, g4, g5, g6⟩ := specC_run os _ env' _ s' (updT Ta o.dst (.tup [])) hs1 h (hinv (.tup []) (fun hy => absurd hy hh) (fun _ => rfl))
      rw [esz, ehp, enx] at ht
      refine ⟨_ :: recs, Ta', .skip hdN hw ht, ?_, hi, hs', by rw [g1, esz], by rw [g2, ehp], by rw [g3, enx], by rw [g4, em], by rw [g5, edi], fun p hp => ?_⟩
      · intro ρ hρ
        rcases List.mem_cons.1 hρ with rfl | hρ
        · rfl
        · exact hups ρ hρ
      · rcases g6 p hp with h1 | h1
        · exact henv p h1
        · exact .inr (by rwa [esz] at h1)
theorem forget_spec : ∀ (env : List (Nat × Chain)) (s : St), StOk s → (∀ p ∈ env, p.1 < s.size) → StOk (forget env s) ∧ (forget env s).size = s.size ∧ (forget env s).hp = s.hp ∧ (forget env s).nx = s.nx ∧ (forget env s).m = s.m ∧ (forget env s).dirty = s.dirty ∧
  (∀ t, (forget env s).tmp t = .junk ∨ ((forget env s).tmp t = s.tmp t ∧ ∀ L, (t, L) ∈ env → L = []))
 | [], s, hs, _ => ⟨hs, rfl, rfl, rfl, rfl, rfl, fun t => .inr ⟨rfl, fun L hL => by cases hL⟩⟩
 | (x, []) :: l, s, hs, hp => by
  simp only [forget]
  obtain ⟨g1, g2, g3, g4, g5, g6, g7⟩ := forget_spec l s hs (fun p h => hp p (by simp [h]))
  refine ⟨g1, g2, g3, g4, g5, g6, fun t => ?_⟩
  rcases g7 t with h | ⟨h1, h2⟩
  · exact .inl h
  · refine .inr ⟨h1, fun L hL => ?_⟩
    rcases List.mem_cons.1 hL with h3 | h3
    · cases h3; rfl
    · exact h2 L h3
 | (x, q :: c) :: l, s, hs, hp => by
  simp only [forget]
  have hx : x < s.size := hp (x, q :: c) (by simp)
  have htm := tmp_put (s := s) (dst := some x) (v := .junk) hx hs.size
  have hs1 : StOk (s.put (some x) .junk) := by
   refine ⟨hs.size, hs.nx, ?_, hs.dom, hs.m⟩
   rw [htm]
   intro t ht
   by_cases e : t = x
   · simp [updT, e]
   · simp only [updT, e, if_false]; exact hs.out t ht
  obtain ⟨g1, g2, g3, g4, g5, g6, g7⟩ := forget_spec l (s.put (some x) .junk) hs1 (fun p h => hp p (by simp [h]))
  refine ⟨g1, g2, g3, g4, g5, g6, fun t => ?_⟩
  rcases g7 t with h | ⟨h1, h2⟩
  · exact .inl h
  · rw [htm] at h1
    by_cases e : t = x
    · left; rw [h1]; simp [updT, e]
    · refine .inr ⟨by rw [h1]; simp [updT, e], fun L hL => ?_⟩
      rcases List.mem_cons.1 hL with h3 | h3
      · simp only [Prod.mk.injEq] at h3; exact absurd h3.1 e
      · exact h2 L h3
theorem chainOf_mem : ∀ {env : List (Nat × Chain)} {t : Nat} {L : Chain}, chainOf env t = some L → (t, L) ∈ env
 | [], _, _, h => by cases h
 | (x, c) :: l, t, L, h => by
  simp only [chainOf] at h
  cases hb : Nat.beq x t with
  | true => rw [hb] at h; simp at h; subst h; rw [Nat.eq_of_beq_eq_true hb]; simp
  | false => rw [hb] at h; simp at h; simp [chainOf_mem h]
theorem specRun_run {κ : Nat → Option CSumm} {ops : List Oper} {draw : Bool} {s s' : St} (hs : StOk s) (h : specRun P κ ops draw s = some s') :
  (draw = true → staticOk ops (befAll ops []) [] ops 0 = true) ∧ ∃ recs Ta, Txt P κ ops s.size ops s.tmp s.hp.get s.nx recs Ta s.hp.get s.nx ∧ (∀ ρ ∈ recs, ρ.ups = []) ∧ StOk s' ∧ s'.size = s.size ∧ s'.hp = s.hp ∧ s'.nx = s.nx ∧ s'.m = s.m ∧ s'.dirty = s.dirty ∧
   (∀ t, s'.tmp t = .junk ∨ s'.tmp t = Ta t) := by
 unfold specRun at h
 cases hc : s.sp && hasGuard ops && (!draw || staticOk ops (befAll ops []) [] ops 0) with
 | false => simp [hc] at h
 | true =>
  simp only [hc, cond_true] at h
  simp only [Bool.and_eq_true, Bool.or_eq_true, Bool.not_eq_true'] at hc
  cases hsp : specC P κ ops ops [] s with
  | none => simp [hsp] at h
  | some p =>
   obtain ⟨env, s1⟩ := p
   simp only [hsp, Option.some.injEq] at h
   subst h
   have inv0 : Inv [] s.tmp s.tmp := ⟨fun _ _ => rfl, fun t L h => (by cases h), fun t L h => (by cases h), fun t L h => (by cases h)⟩
   obtain ⟨recs, Ta, ht, hups, hi, hs1, g1, g2, g3, g4, g5, g6⟩ := specC_run ops [] env s s1 s.tmp hs hsp inv0
   obtain ⟨f1, f2, f3, f4, f5, f6, f7⟩ := forget_spec env s1 hs1 (fun p hp => by
    rcases g6 p hp with h | h
    · cases h
    · rw [g1]; exact h)
   refine ⟨fun hd => ?_, recs, Ta, ht, hups, f1, by rw [f2, g1], by rw [f3, g2], by rw [f4, g3], by rw [f5, g4], by rw [f6, g5], fun t => ?_⟩
   · rcases hc.2 with h | h
     · rw [hd] at h; cases h
     · exact h
   · rcases f7 t with h | ⟨h1, h2⟩
     · exact .inl h
     · right
       rw [h1]
       cases hce : chainOf env t with
       | none => exact (hi.out t hce).symm
       | some L =>
        have := h2 L (chainOf_mem hce)
        subst this
        exact (hi.yes t [] hce (fun p hp => by cases hp)).symm
theorem specC_rd {κ : Nat → Option CSumm} {all : List Oper} : ∀ (os : List Oper) (env env' : List (Nat × Chain)) (s s' : St), specC P κ all os env s = some (env', s') → s'.rd = s.rd
 | [], env, env', s, s', h => by
  simp only [specC, Option.some.injEq, Prod.mk.injEq] at h
  rw [h.2]
 | o :: os, env, env', s, s', h => by
  simp only [specC] at h
  cases hc : specChain all env s o.guard with
  | none => simp [hc] at h
  | some L =>
   simp only [hc] at h
   cases hd : specDst env s o.dst && opUnder env L o.op with
   | false => simp [hd] at h
   | true =>
    simp only [hd, cond_true] at h
    cases hr : specOp P κ o s with
    | none => simp [hr] at h
    | some r =>
     simp only [hr] at h
     rw [specC_rd os _ _ _ _ h]
     cases o.dst <;> rfl
theorem forget_rd : ∀ (env : List (Nat × Chain)) (s : St), (forget env s).rd = s.rd
 | [], s => rfl
 | (x, []) :: l, s => by simp only [forget]; exact forget_rd l s
 | (x, q :: c) :: l, s => by simp only [forget]; rw [forget_rd l]; rfl
theorem specRun_rd {κ : Nat → Option CSumm} {ops : List Oper} {draw : Bool} {s s' : St} (h : specRun P κ ops draw s = some s') : s'.rd = s.rd := by
 unfold specRun at h
 cases hc : s.sp && hasGuard ops && (!draw || staticOk ops (befAll ops []) [] ops 0) with
 | false => simp [hc] at h
 | true =>
  simp only [hc, cond_true] at h
  cases hsp : specC P κ ops ops [] s with
  | none => simp [hsp] at h
  | some p =>
   obtain ⟨env, s1⟩ := p
   simp only [hsp, Option.some.injEq] at h
   rw [← h, forget_rd, specC_rd _ _ _ _ _ hsp]
theorem SimF.weaken {n : Nat} {T T' : Nat → SV} {h : HpF} {a : Act} {w : World} {Im : Nat → Prop} {θ : Th} (s : SimF P ω n T h a w Im θ) (ht : ∀ t, T' t = .junk ∨ T' t = T t) : SimF P ω n T' h a w Im θ := by
 refine ⟨s.size, fun t htn => ?_, fun t htn => ?_, s.df, s.hp⟩
 · rcases ht t with e | e
   · rw [e]; exact .junk
   · rw [e]; exact s.tm t htn
 · rcases ht t with e | e
   · exact e
   · rw [e]; exact s.out t htn
theorem footsOk_nil (bs : List Nat) : ∀ (l : List Foot), (∀ f ∈ l, f.writes = []) → footsOk bs l = true
 | [], _ => rfl
 | f :: l, h => by
  simp only [footsOk, Bool.and_eq_true]
  refine ⟨List.all_eq_true.2 (fun g hg => ?_), footsOk_nil bs l (fun g hg => h g (by simp [hg]))⟩
  have h1 := h f (by simp)
  have h2 := h g (by simp [hg])
  have : apartF f g = true := by
   unfold apartF
   rw [h1, h2]
   have e : ∀ l : List Nat, overlap l [] = false := by
    intro l
    induction l with
    | nil => rfl
    | cons x l ih => simp [overlap, memN, ih]
   simp [overlap, e]
  simp [this]
theorem feet_nil : ∀ (l : List Rec) (i : Nat) (acc : List Foot), (∀ ρ ∈ l, ρ.ups = []) → (∀ f ∈ acc, f.writes = []) → ∀ f ∈ feet i l acc, f.writes = []
 | [], _, _, _, h => h
 | ρ :: l, i, acc, hl, ha => by
  simp only [feet]
  refine feet_nil l (i + 1) _ (fun σ hσ => hl σ (by simp [hσ])) ?_
  intro f hf
  split at hf
  · rcases List.mem_cons.1 hf with rfl | hf
    · simp [hl ρ (by simp)]
    · exact ha f hf
  · exact ha f hf
end Go.Am
/- The abstract machine: the records of ranges over functions. -/
namespace Go.Am
variable {P : Program} {ω : Nat → Value}
theorem alloc_free {w : World} {Im : Nat → Prop} {θ : Th} {h : HpF} (hr : HRel P ω w Im θ h) (o : Obj) : Ext (fun _ => False) h w Im θ h (w.alloc o) Im θ ∧ HRel P ω (w.alloc o) Im θ h := by
 have hold : ∀ b, b < w.heap.size → (w.alloc o).heap[b]? = w.heap[b]? := fun b hb => alloc_old w _ b hb
 have hI : ∀ b, Im b → Im b ∧ (w.alloc o).heap[b]? = w.heap[b]? := fun b hb => ⟨hb, hold b (hr.im b hb)⟩
 refine ⟨⟨fun _ _ => rfl, fun _ _ h => h, fun _ h => h, by simp, fun b hb _ => hold b hb, fun b hb => .inl hb, fun x c b N hx hb => .inl ⟨x, c, N, hx, hb⟩, rfl, rfl, rfl, Nat.le_refl _⟩, ?_⟩
 refine ⟨fun x c hx => (hr.at_ x c hx).mono hI (fun _ _ h => h) rfl (fun b N hb => hold b (hr.own x c b N hx hb).2), hr.inj, fun x c b N hx hb => ⟨(hr.own x c b N hx hb).1, ?_⟩, fun b hb => ?_, hr.gl.mono hI⟩
 · have := (hr.own x c b N hx hb).2; simp; omega
 · have := hr.im b hb; simp; omega
theorem alloc_loop {w : World} {Im : Nat → Prop} {θ : Th} {h : HpF} (hr : HRel P ω w Im θ h) {nx : Nat} (hθ : θ nx = none) {st : LS} {vs : List SV} {lp : Loop} (hl : LRel P ω w Im θ vs lp.tmps.toList) (hs : stRel st lp.state lp.pending) :
  ∃ θ', Ext (fun x => nx ≤ x ∧ x < nx + 1) h w Im θ (updF [(nx, some (.loopr st vs lp.params lp.assign lp.body))] h) (w.alloc (.loop lp)) Im θ' ∧
   HRel P ω (w.alloc (.loop lp)) Im θ' (updF [(nx, some (.loopr st vs lp.params lp.assign lp.body))] h) ∧ θ' nx = some (w.heap.size, 0) := by
 let θ' : Th := fun x => if x = nx then some (w.heap.size, 0) else θ x
 have hup : ∀ x p, θ x = some p → θ' x = some p := by
  intro x p hp
  by_cases hx : x = nx
  · subst hx; rw [hθ] at hp; cases hp
  · simp [θ', hx, hp]
 have hold : ∀ b, b < w.heap.size → (w.alloc (.loop lp)).heap[b]? = w.heap[b]? := fun b hb => alloc_old w _ b hb
 have hI : ∀ b, Im b → Im b ∧ (w.alloc (.loop lp)).heap[b]? = w.heap[b]? := fun b hb => ⟨hb, hold b (hr.im b hb)⟩
 refine ⟨θ', ?_, ?_, by simp [θ']⟩
 · refine ⟨?_, hup, fun _ h => h, by simp, fun b hb _ => hold b hb, fun b hb => .inl hb, ?_, rfl, rfl, rfl, Nat.le_refl _⟩
   · intro x hx
     have : x ≠ nx := by intro e; subst e; exact hx ⟨Nat.le_refl _, Nat.lt_succ_self _⟩
     simp [θ', this]
   · intro x c b N hx hb
     by_cases hxn : x = nx
     · subst hxn
       simp [θ'] at hb
       exact .inr (by omega)
     · simp [θ', hxn] at hb
       simp [updF, hxn] at hx
       exact .inl ⟨x, c, N, hx, hb⟩
 · refine ⟨?_, ?_, ?_, fun b hb => by have := hr.im b hb; simp; omega, hr.gl.mono hI⟩
   · intro x c hx
     by_cases hxn : x = nx
     · subst hxn
       simp [updF] at hx
       subst hx
       exact ⟨w.heap.size, 0, lp, by simp [θ'], alloc_new w _, rfl, rfl, rfl, hs, hl.mono hI hup⟩
     · simp [updF, hxn] at hx
       exact (hr.at_ x c hx).mono hI hup (by simp [θ', hxn]) (fun b N hb => hold b (hr.own x c b N hx hb).2)
   · intro x y c c' b N N' hx hy hb hb'
     by_cases hxn : x = nx
     · by_cases hyn : y = nx
       · rw [hxn, hyn]
       · simp [updF, hyn] at hy
         simp [θ', hyn] at hb'
         simp [θ', hxn] at hb
         have := (hr.own y c' b N' hy hb').2
         omega
     · by_cases hyn : y = nx
       · simp [updF, hxn] at hx
         simp [θ', hxn] at hb
         simp [θ', hyn] at hb'
         have := (hr.own x c b N hx hb).2
         omega
       · simp [updF, hxn] at hx
         simp [updF, hyn] at hy
         simp [θ', hxn] at hb
         simp [θ', hyn] at hb'
         exact hr.inj x y c c' b N N' hx hy hb hb'
   · intro x c b N hx hb
     by_cases hxn : x = nx
     · simp [θ', hxn] at hb
       refine ⟨fun hi => ?_, by simp; omega⟩
       have := hr.im b hi
       omega
     · simp [updF, hxn] at hx
       simp [θ', hxn] at hb
       have := hr.own x c b N hx hb
       exact ⟨this.1, by simp; omega⟩
theorem put_loop {w : World} {Im : Nat → Prop} {θ : Th} {h : HpF} (hr : HRel P ω w Im θ h) {x b N : Nat} {st st' : LS} {vs : List SV} {ps : Array Nat} {asg bdy : Code} (hx : h x = some (.loopr st vs ps asg bdy)) (hθ : θ x = some (b, N)) :
  ∃ lp : Loop, w.heap[b]? = some (.loop lp) ∧ lp.params = ps ∧ lp.assign = asg ∧ lp.body = bdy ∧ stRel st lp.state lp.pending ∧ LRel P ω w Im θ vs lp.tmps.toList ∧
   ∀ (s : LoopState) (pe : Option Code), stRel st' s pe → Ext (fun _ => False) h w Im θ (updF [(x, some (.loopr st' vs ps asg bdy))] h) (w.putObj b (.loop { lp with state := s, pending := pe })) Im θ ∧
    HRel P ω (w.putObj b (.loop { lp with state := s, pending := pe })) Im θ (updF [(x, some (.loopr st' vs ps asg bdy))] h) := by
 obtain ⟨b', N', lp, h1, h2, h3, h4, h5, h6, h7⟩ := hr.at_ x _ hx
 rw [hθ] at h1
 simp only [Option.some.injEq, Prod.mk.injEq] at h1
 obtain ⟨rfl, rfl⟩ := h1
 refine ⟨lp, h2, h3, h4, h5, h6, h7, fun s pe hs => put_block hr hx hθ _ _ (fun hI d hd => ?_)⟩
 cases hd
 exact ⟨b, N, _, hθ, World.putObj_heap_same (heap_lt h2), h3, h4, h5, hs, h7.mono hI (fun _ _ h => h)⟩
/- The function's end. -/
theorem leaves_marks {fn : Func} {tmps : Array Value} {ro : Option Nat} {R : Ending → World → Prop} : ∀ (rs : List Nat) (w : World), rs.Nodup → (∀ r ∈ rs, w.heap[r]? = some (.deferred (some []))) →
  (∀ w', w'.heap.size = w.heap.size → (∀ b, b ∉ rs → w'.heap[b]? = w.heap[b]?) → w'.os = w.os → w'.output = w.output → w'.tape = w.tape → w'.drawn = w.drawn → ∃ v, (results fn tmps).run P w' = .ok v w' ∧ R (.returned v) w') →
  LeavesInM (FR ro) 0 P fn tmps R (rs.map fun r => { target := .collected r, args := #[] }) .returning w
 | [], w, _, _, hR => hR w rfl (fun _ _ => rfl) rfl rfl rfl rfl
 | r :: rs, w, hnd, hat, hR => by
  rw [List.nodup_cons] at hnd
  refine ⟨by simp, .inl ⟨r, _, rfl, run_takeDeferred (hat r (by simp)), ?_⟩⟩
  refine leaves_marks rs _ hnd.2 (fun q hq => ?_) (fun w' h1 h2 h3 h4 h5 h6 => hR w' (by simpa using h1) (fun b hb => ?_) h3 h4 h5 h6)
  · rw [World.putObj_heap_other (show q ≠ r from fun e => hnd.1 (by rw [← e]; exact hq))]; exact hat q (by simp [hq])
  · simp only [List.mem_cons, not_or] at hb
    rw [h2 b hb.2, World.putObj_heap_other hb.1]
end Go.Am
/- The abstract machine: code. -/
namespace Go.Am
variable {P : Program} {ω : Nat → Value}
theorem upsTr_get : ∀ (l : List (Nat × Option Chunk)) (h : Tr Chunk), (∀ p ∈ l, p.1 < 1000000) → (upsTr l h).get = updF l h.get
 | [], _, _ => rfl
 | (x, c) :: l, h, hl => by
  simp only [upsTr, updF]
  rw [upsTr_get l _ (fun p hp => hl p (by simp [hp]))]
  congr 1
  funext y
  rw [Tr.get_set 20 h x c y (by have := hl (x, c) (by simp); simp at this; omega)]
/- What a state says of the model's. -/
structure Sim (P : Program) (ω : Nat → Value) (ρ : Option Nat) (s : St) (a : Act) (w : World) (Im : Nat → Prop) (θ : Th) : Prop where
 ok : StOk s
 sf : SimF P ω s.size s.tmp s.hp.get a w Im θ
 fr : Fr s.nx θ s.hp.get
 rd : (s.rd = none ∧ ρ = none) ∨ ∃ y b N, s.rd = some y ∧ θ y = some (b, N) ∧ ρ = some b
def mark (r : Nat) : Deferred := { target := .collected r, args := #[] }
def New (a a' : Act) (w : World) : Prop := ∃ rs : List Nat, a'.defers = rs.map mark ++ a.defers ∧ ∀ r ∈ rs, w.heap.size ≤ r
theorem New.refl {a a' : Act} {w : World} (h : a'.defers = a.defers) : New a a' w := ⟨[], by simpa using h, fun r hr => by cases hr⟩
theorem mark_inj2 : ∀ {rs rs' : List Nat} {b b' : List Deferred}, (∀ d ∈ b, ∀ r, d ≠ mark r) → (∀ d ∈ b', ∀ r, d ≠ mark r) → rs.map mark ++ b = rs'.map mark ++ b' → rs = rs'
 | [], [], _, _, _, _, _ => rfl
 | [], r :: rs', b, b', hb, _, h => by
  simp only [List.map_nil, List.nil_append, List.map_cons, List.cons_append] at h
  exact (hb (mark r) (by rw [h]; simp) r rfl).elim
 | r :: rs, [], b, b', _, hb, h => by
  simp only [List.map_nil, List.nil_append, List.map_cons, List.cons_append] at h
  exact (hb (mark r) (by rw [← h]; simp) r rfl).elim
 | r :: rs, r' :: rs', b, b', hb, hb', h => by
  simp only [List.map_cons, List.cons_append, List.cons.injEq] at h
  obtain ⟨h1, h2⟩ := h
  simp only [mark, Deferred.mk.injEq, Target.collected.injEq, and_true] at h1
  rw [h1, mark_inj2 hb hb' h2]
theorem New.trans {a a' a'' : Act} {w w' : World} (h : New a a' w) (h' : New a' a'' w') (hs : w.heap.size ≤ w'.heap.size) : New a a'' w := by
 obtain ⟨rs, h1, h2⟩ := h
 obtain ⟨rs', h3, h4⟩ := h'
 refine ⟨rs' ++ rs, by rw [h3, h1]; simp, fun r hr => ?_⟩
 rcases List.mem_append.1 hr with h5 | h5
 · have := h4 r h5; omega
 · exact h2 r h5
structure Later (s s2 : St) : Prop where
 m : s2.m = s.m
 nx : s.nx ≤ s2.nx
 same : ∀ x, x < s.m → s2.hp.get x = s.hp.get x ∨ x ∈ s2.dirty
 up : ∀ x ∈ s.dirty, x ∈ s2.dirty
 low : ∀ x ∈ s2.dirty, x ∈ s.dirty ∨ x < s.m
theorem Later.refl (s : St) : Later s s := ⟨rfl, Nat.le_refl _, fun _ _ => .inl rfl, fun _ h => h, fun _ h => .inl h⟩
theorem Later.of {s s2 : St} (h1 : s2.m = s.m) (h2 : s2.nx = s.nx) (h3 : s2.hp = s.hp) (h4 : s2.dirty = s.dirty) : Later s s2 :=
 ⟨h1, by rw [h2]; exact Nat.le_refl _, fun _ _ => .inl (by rw [h3]), fun _ h => by rw [h4]; exact h, fun _ h => .inl (by rw [← h4]; exact h)⟩
theorem Later.trans {a b c : St} (h : Later a b) (k : Later b c) : Later a c := by
 refine ⟨k.m.trans h.m, Nat.le_trans h.nx k.nx, fun x hx => ?_, fun x hx => k.up x (h.up x hx), fun x hx => ?_⟩
 · rcases k.same x (by rw [h.m]; exact hx) with h1 | h1
   · rcases h.same x hx with h2 | h2
     · exact .inl (h1.trans h2)
     · exact .inr (k.up x h2)
   · exact .inr h1
 · rcases k.low x hx with h1 | h1
   · exact h.low x h1
   · exact .inr (by rw [← h.m]; exact h1)
def exitOf : Ex → Exit
 | .normal => .normal
 | .exit id => .exit id
 | .ret => .ret
def After (P : Program) (ω : Nat → Value) (ρ : Option Nat) (s s2 : St) (a : Act) (w : World) (Im : Nat → Prop) (θ : Th) (K : Act → World → Prop) : Prop :=
 ∀ a' w' Im' θ', Sim P ω ρ s2 a' w' Im' θ' → Ext (fun x => s.nx ≤ x) s.hp.get w Im θ s2.hp.get w' Im' θ' → New a a' w → K a' w'
theorem After.trans {ρ : Option Nat} {s s1 s2 : St} {a a1 : Act} {w w1 : World} {Im Im1 : Nat → Prop} {θ θ1 : Th} {K : Act → World → Prop} (hl : Later s s1)
  (hE : Ext (fun x => s.nx ≤ x) s.hp.get w Im θ s1.hp.get w1 Im1 θ1) (hN : New a a1 w) (h : After P ω ρ s s2 a w Im θ K) : After P ω ρ s1 s2 a1 w1 Im1 θ1 K :=
 fun a' w' Im' θ' sim hE' hN' => h a' w' Im' θ' sim (hE.trans (hE'.mono (fun _ hx => Nat.le_trans hl.nx hx))) (hN.trans hN' hE.size)
def W (P : Program) (ρ : Option Nat) (m : Nat) (c : Code) (Q : Exit → Act → World → Prop) (a : Act) (w : World) : Prop :=
 match c with
 | .loop b => Code.roundsIn (FR ρ) 0 P b Q m a w
 | c => c.wpIn (FR ρ) 0 P Q a w
theorem W.wp {ρ : Option Nat} {m : Nat} {c : Code} {Q : Exit → Act → World → Prop} {a : Act} {w : World} (h : W P ρ m c Q a w) : c.wpIn (FR ρ) 0 P Q a w := by
 cases c with
 | loop b => exact wpIn_loop_rounds m h
 | _ => exact h
structure Comes (P : Program) (c : Code) (s : St) (e : Ex) (s2 : St) : Prop where
 later : Later s s2
 size : s2.size = s.size
 rd : s2.rd = s.rd
 wps : ∃ m, ∀ (ω : Nat → Value) (ρ : Option Nat) (Q : Exit → Act → World → Prop) (a : Act) (w : World) (Im : Nat → Prop) (θ : Th), Sim P ω ρ s a w Im θ → After P ω ρ s s2 a w Im θ (Q (exitOf e)) → W P ρ m c Q a w
theorem Comes.wp {c : Code} {s s2 : St} {e : Ex} (h : Comes P c s e s2) (ρ : Option Nat) (Q : Exit → Act → World → Prop) (a : Act) (w : World) (Im : Nat → Prop) (θ : Th) (sim : Sim P ω ρ s a w Im θ) (hA : After P ω ρ s s2 a w Im θ (Q (exitOf e))) : c.wpIn (FR ρ) 0 P Q a w := by
 obtain ⟨m, hm⟩ := h.wps
 exact (hm ω ρ Q a w Im θ sim hA).wp
def RcrOk {R D : Type} (P : Program) (den : R → Option D) (rec : Rcr R) : Prop :=
 ∀ (c : Code) (s : St) (k : Ex → St → R) (d : D), StOk s → den (rec c s k) = some d → ∃ e s2, StOk s2 ∧ Comes P c s e s2 ∧ den (k e s2) = some d
section
variable {R D : Type} {fl : R} {den : R → Option D} (hfl : den fl = none)
include hfl
theorem fl_no {d : D} (h : den fl = some d) : False := by rw [hfl] at h; cases h
theorem interp_run {h : Tr Chunk} {k : SV → List (Nat × Option Chunk) → Nat → List Nat → R} {d : D} : ∀ (m : OpM) (rs : List Nat), den (interpR fl h k m rs) = some d →
  ∃ r ups nx rs', mrun h.get m = some (r, ups, nx, rs') ∧ den (k r ups nx (rs ++ rs')) = some d
 | .done r ups nx, rs, hm => ⟨r, ups, nx, [], rfl, by simpa [interpR] using hm⟩
 | .get x f, rs, hm => by
  simp only [interpR] at hm
  cases hx : h.get x with
  | none => simp only [hx] at hm; exact (fl_no hfl hm).elim
  | some c =>
   simp only [hx] at hm
   obtain ⟨r, ups, nx, rs', h1, h2⟩ := interp_run (f c) _ hm
   exact ⟨r, ups, nx, x :: rs', by simp [mrun, hx, h1], by simpa using h2⟩
 | .ite b t e, rs, hm => by
  simp only [interpR] at hm
  cases b
  · simp only [cond_false] at hm
    obtain ⟨r, ups, nx, rs', h1, h2⟩ := interp_run e _ hm
    exact ⟨r, ups, nx, rs', by simp [mrun, h1], h2⟩
  · simp only [cond_true] at hm
    obtain ⟨r, ups, nx, rs', h1, h2⟩ := interp_run t _ hm
    exact ⟨r, ups, nx, rs', by simp [mrun, h1], h2⟩
 | .fail, rs, hm => (fl_no hfl hm).elim
omit hfl in
theorem dstOk_N {s : St} {d : Option Nat} (h : dstOk s d = true) : dstN s.size d := by
 cases d with
 | none => trivial
 | some d => simp only [dstOk] at h; rw [Nat.blt_eq] at h; exact h
omit hfl in
structure Alike (s s1 : St) : Prop where
 tmp : s1.tmp = s.tmp
 hp : s1.hp = s.hp
 nx : s1.nx = s.nx
 size : s1.size = s.size
 m : s1.m = s.m
 dirty : s1.dirty = s.dirty
 rd : s1.rd = s.rd
omit hfl in
theorem Alike.ok {s s1 : St} (h : Alike s s1) (hs : StOk s) : StOk s1 :=
 ⟨by rw [h.size]; exact hs.size, by rw [h.nx]; exact hs.nx, by rw [h.size, h.tmp]; exact hs.out, by rw [h.hp, h.nx]; exact hs.dom, by rw [h.nx, h.m]; exact hs.m⟩
omit hfl in
theorem Alike.sim {ρ : Option Nat} {s s1 : St} {a : Act} {w : World} {Im : Nat → Prop} {θ : Th} (h : Alike s s1) (sim : Sim P ω ρ s a w Im θ) : Sim P ω ρ s1 a w Im θ :=
 ⟨h.ok sim.ok, by rw [h.size, h.tmp, h.hp]; exact sim.sf, by rw [h.nx, h.hp]; exact sim.fr, by rw [h.rd]; exact sim.rd⟩
omit hfl in
theorem Alike.later {s s1 : St} (h : Alike s s1) : Later s s1 := Later.of h.m h.nx h.hp h.dirty
theorem guard_run {all : List Oper} {s : St} {k : St → Bool → R} {o : Oper} {d : D} (hs : s.size < 16000) (h : den (guardR fl all s k o.guard) = some d) :
  ∃ s1 go, Alike s s1 ∧ wantedT all s.size s.tmp o = some go ∧ den (k s1 go) = some d := by
 unfold guardR at h
 unfold wantedT
 have self : Alike s s := ⟨rfl, rfl, rfl, rfl, rfl, rfl, rfl⟩
 cases hg : o.guard with
 | none =>
  rw [hg] at h
  exact ⟨s, true, self, rfl, h⟩
 | some p =>
  obtain ⟨j, want⟩ := p
  rw [hg] at h
  simp only [nth?_eq] at h
  simp only []
  cases hj : all[j]? with
  | none => simp only [hj] at h; exact (fl_no hfl h).elim
  | some oj =>
   simp only [hj] at h ⊢
   cases hd : oj.dst with
   | none => simp only [hd] at h; exact (fl_no hfl h).elim
   | some d =>
    simp only [hd] at h ⊢
    split at h
    · rename_i b hb
      cases hlt : Nat.blt d s.size with
      | false => rw [hlt] at h; exact (fl_no hfl h).elim
      | true =>
       rw [hlt] at h
       have hdn : d < s.size := by rw [Nat.blt_eq] at hlt; exact hlt
       simp only [hdn, if_true, hb]
       have ht : ∀ c, c = b → (s.put (some d) (.bool c)).tmp = s.tmp := by
        intro c hc
        rw [tmp_put (show dstN s.size (some d) from hdn) hs]
        funext t
        by_cases e : t = d
        · subst e; simp [updT, hb, hc]
        · simp [updT, e]
       cases b
       · simp only [cond_true, cond_false] at h
         exact ⟨_, !want, ⟨ht false rfl, rfl, rfl, rfl, rfl, rfl, rfl⟩, by cases want <;> rfl, h⟩
       · simp only [cond_true] at h
         exact ⟨_, want, ⟨ht true rfl, rfl, rfl, rfl, rfl, rfl, rfl⟩, by cases want <;> rfl, h⟩
    · rename_i hb
      cases hlt : Nat.blt d s.size with
      | false => rw [hlt] at h; exact (fl_no hfl h).elim
      | true =>
       rw [hlt] at h
       have hdn : d < s.size := by rw [Nat.blt_eq] at hlt; exact hlt
       simp only [hdn, if_true, hb]
       simp only [cond_true] at h
       exact ⟨s, false, self, rfl, h⟩
    · exact (fl_no hfl h).elim
end
/- Updating a state. -/
theorem addDirty_spec (m : Nat) : ∀ (l : List (Nat × Option Chunk)) (d : List Nat), (∀ x ∈ d, x ∈ addDirty m l d) ∧ (∀ x ∈ addDirty m l d, x ∈ d ∨ x < m) ∧ (∀ x, x < m → x ∈ l.map (·.1) → x ∈ addDirty m l d) := by
 intro l
 induction l with
 | nil => intro d; exact ⟨fun x hx => hx, fun x hx => .inl hx, fun x _ hx => by cases hx⟩
 | cons p l ih =>
  obtain ⟨y, c⟩ := p
  intro d
  simp only [addDirty]
  obtain ⟨i1, i2, i3⟩ := ih (bif Nat.blt y m && !memN y d then y :: d else d)
  have hcase : ∀ x, x ∈ (bif Nat.blt y m && !memN y d then y :: d else d) ↔ x ∈ d ∨ (x = y ∧ y < m) := by
   intro x
   cases h1 : Nat.blt y m with
   | false =>
    have : ¬ y < m := by intro hh; rw [← Nat.blt_eq] at hh; rw [hh] at h1; cases h1
    simp [this]
   | true =>
    have hy : y < m := by rw [Nat.blt_eq] at h1; exact h1
    cases h2 : memN y d with
    | true =>
     have := (memN_iff y d).1 h2
     simp only [Bool.not_true, Bool.and_false, cond_false]
     constructor
     · exact fun h => .inl h
     · rintro (h | ⟨rfl, _⟩)
       · exact h
       · exact this
    | false => simp [hy, or_comm]
  refine ⟨fun x hx => i1 x ((hcase x).2 (.inl hx)), fun x hx => ?_, fun x hxm hx => ?_⟩
  · rcases i2 x hx with h3 | h3
    · rcases (hcase x).1 h3 with h4 | ⟨rfl, h4⟩
      · exact .inl h4
      · exact .inr h4
    · exact .inr h3
  · simp only [List.map_cons, List.mem_cons] at hx
    rcases hx with rfl | hx
    · exact i1 x ((hcase x).2 (.inr ⟨rfl, hxm⟩))
    · exact i3 x hxm hx
theorem upd_later {s : St} {ups : List (Nat × Option Chunk)} {nx : Nat} (hle : s.nx ≤ nx) (hk : ∀ p ∈ ups, p.1 < 1000000) : Later s (s.upd ups nx) := by
 obtain ⟨d1, d2, d3⟩ := addDirty_spec s.m ups s.dirty
 refine ⟨rfl, hle, fun x hx => ?_, d1, d2⟩
 show (upsTr ups s.hp).get x = _ ∨ x ∈ addDirty s.m ups s.dirty
 rw [upsTr_get _ _ hk]
 by_cases hxk : x ∈ ups.map (·.1)
 · exact .inr (d3 x hx hxk)
 · left; rw [updF_not hxk]
theorem put_hp (s : St) (d : Option Nat) (v : SV) : (s.put d v).hp = s.hp := by cases d <;> rfl
theorem put_nx (s : St) (d : Option Nat) (v : SV) : (s.put d v).nx = s.nx := by cases d <;> rfl
theorem put_m (s : St) (d : Option Nat) (v : SV) : (s.put d v).m = s.m := by cases d <;> rfl
theorem put_sz (s : St) (d : Option Nat) (v : SV) : (s.put d v).size = s.size := by cases d <;> rfl
theorem put_dirty (s : St) (d : Option Nat) (v : SV) : (s.put d v).dirty = s.dirty := by cases d <;> rfl
theorem put_rd (s : St) (d : Option Nat) (v : SV) : (s.put d v).rd = s.rd := by cases d <;> rfl
theorem put_ok {s : St} (hs : StOk s) {d : Option Nat} (hd : dstN s.size d) (v : SV) : StOk (s.put d v) := by
 refine ⟨by rw [put_sz]; exact hs.size, by rw [put_nx]; exact hs.nx, ?_, by rw [put_hp, put_nx]; exact hs.dom, by rw [put_nx, put_m]; exact hs.m⟩
 rw [put_sz, tmp_put hd hs.size]
 intro t ht
 cases d with
 | none => simpa [updT] using hs.out t ht
 | some d =>
  have : t ≠ d := by intro e; subst e; simp only [dstN] at hd; omega
  simp [updT, this, hs.out t ht]
theorem upd_ok {s : St} (hs : StOk s) {ups : List (Nat × Option Chunk)} {nx : Nat} (hle : s.nx ≤ nx) (hnx : nx < 1000000) (hk : ∀ p ∈ ups, p.1 < nx) : StOk (s.upd ups nx) := by
 refine ⟨hs.size, hnx, hs.out, ?_, Nat.le_trans hs.m hle⟩
 show ∀ x c, (upsTr ups s.hp).get x = some c → x < nx
 rw [upsTr_get _ _ (fun p hp => by have := hk p hp; omega)]
 intro x c hx
 rcases updF_mem hx with h3 | ⟨_, h3⟩
 · exact hk _ h3
 · have := hs.dom x c h3; omega
theorem frame_later (s s' : St) (t : Tr SV) (n : Nat) (r : Option Nat) (h : Later s s') : Later s { s' with tm := t, size := n, rd := r } := ⟨h.m, h.nx, h.same, h.up, h.low⟩
theorem argsTr_get : ∀ (args : List SV) (i : Nat) (t : Tr SV) (j : Nat), i + args.length < 16000 → (argsTr args i t).get j = if i ≤ j ∧ j < i + args.length then args[j - i]? else t.get j
 | [], i, t, j, _ => by
  have : ¬ (i ≤ j ∧ j < i + ([] : List SV).length) := by simp only [List.length_nil]; omega
  rw [if_neg this]; rfl
 | v :: vs, i, t, j, hl => by
  simp only [argsTr, List.length_cons] at hl ⊢
  rw [argsTr_get vs (i + 1) _ j (by omega)]
  rw [Tr.get_set 14 t i (some v) j (by omega)]
  by_cases h1 : i + 1 ≤ j ∧ j < i + 1 + vs.length
  · rw [if_pos h1, if_pos (by omega)]
    have : j - i = (j - (i + 1)) + 1 := by omega
    rw [this, List.getElem?_cons_succ]
  · rw [if_neg h1]
    by_cases h2 : j = i
    · subst h2
      rw [if_pos rfl, if_pos (by omega)]
      simp
    · rw [if_neg h2, if_neg (by omega)]
theorem args_tmp {args : List SV} (h : args.length < 16000) (s : St) (t : Nat) : ({ s with tm := argsTr args 0 .lf } : St).tmp t = match args[t]? with
  | some v => v
  | none => .junk := by
 simp only [St.tmp]
 rw [argsTr_get args 0 .lf t (by omega)]
 by_cases ht : t < args.length
 · rw [if_pos (by omega)]
   simp [ht]
 · rw [if_neg (by omega)]
   simp only [Tr.get_lf]
   rw [List.getElem?_eq_none (by omega)]
theorem enter_ok {s : St} (hs : StOk s) {args : List SV} {n : Nat} (h1 : args.length ≤ n) (h2 : n < 16000) : StOk { s with tm := argsTr args 0 .lf, size := n, rd := none } := by
 refine ⟨h2, hs.nx, fun t ht => ?_, hs.dom, hs.m⟩
 have ht' : n ≤ t := ht
 show ({ s with tm := argsTr args 0 .lf } : St).tmp t = _
 rw [args_tmp (by omega), List.getElem?_eq_none (by omega)]
theorem enter_sim {s : St} (hs : StOk s) {args : List SV} {us : List Value} {n : Nat} (h1 : args.length ≤ n) (h2 : n < 16000) {w : World} {Im : Nat → Prop} {θ : Th} (hr : HRel P ω w Im θ s.hp.get) (hf : Fr s.nx θ s.hp.get) (hl : LRel P ω w Im θ args us) :
  Sim P ω none { s with tm := argsTr args 0 .lf, size := n, rd := none } { tmps := us.toArray ++ Array.replicate (n - us.toArray.size) undef, defers := [] } w Im θ := by
 have hul : us.length = args.length := hl.len.symm
 refine ⟨enter_ok hs h1 h2, ⟨by simp; omega, fun t ht => ?_, (enter_ok hs h1 h2).out, Mk.nil, hr⟩, hf, .inl ⟨rfl, rfl⟩⟩
 show VRel P ω w Im θ (({ s with tm := argsTr args 0 .lf } : St).tmp t) _
 rw [args_tmp (by omega)]
 by_cases ht2 : t < args.length
 · have e1 : args[t]? = some args[t] := by simp [ht2]
   rw [e1]
   refine hl.at_ t _ _ e1 ?_
   have ht3 : t < us.length := by omega
   simp [Array.getD_eq_getD_getElem?, Array.getElem?_append, ht3]
 · rw [List.getElem?_eq_none (by omega)]
   exact .junk
end Go.Am
/- The abstract machine: calls, rounds, regions, code: what is carried out. -/
namespace Go.Am
variable {P : Program} {ω : Nat → Value}
theorem lowB_spec {m : Nat} : ∀ (l : List Nat), lowB m l = true → ∀ x ∈ l, x < m
 | [], _, _, h => by cases h
 | y :: l, h, x, hx => by
  simp only [lowB, Bool.and_eq_true] at h
  rcases List.mem_cons.1 hx with rfl | hx
  · have := h.1; rwa [Nat.blt_eq] at this
  · exact lowB_spec l h.2 x hx
/- The results. -/
def resSem (tmps : Array Value) : ResultVar → Sem Value
 | .tmp t => pure (tmps.getD t undef)
 | .cell p t => do loadVar t (← asAddr (tmps.getD p undef))
theorem results_eq (f : Func) (tmps : Array Value) : results f tmps = (do
  let vs ← f.results.mapM (resSem tmps)
  pure (if h : vs.size = 1 then vs[0] else .tuple vs)) := by
 unfold results
 congr
theorem run_resultS {s : St} {a : Act} {w : World} {Im : Nat → Prop} {θ : Th} (hS : SimF P ω s.size s.tmp s.hp.get a w Im θ) {r : ResultVar} {v : SV} (h : resultS P s r = some v) :
  ∃ u, (resSem a.tmps r).run P w = .ok u w ∧ VRel P ω w Im θ v u := by
 cases r with
 | tmp t =>
  simp only [resultS] at h
  cases hb : Nat.blt t s.size with
  | false => simp [hb] at h
  | true =>
   simp only [hb, cond_true, Option.some.injEq] at h
   subst h
   exact ⟨_, rfl, hS.tm t (by rwa [Nat.blt_eq] at hb)⟩
 | cell p t =>
  simp only [resultS] at h
  have hp := hS.eval (.tmp p)
  simp only [evT, Act.eval] at hp
  split at h
  · rename_i x off hx
    rw [hx] at hp
    simp only [resSem]
    generalize a.tmps.getD p undef = u at hp ⊢
    cases hp with
    | ptr hθ =>
     split at h
     · rename_i T vs hg
       obtain ⟨b', cs, fr, h1, h2, h3, h4⟩ := hS.hp.at_ x _ hg
       rw [hθ] at h1
       simp only [Option.some.injEq, Prod.mk.injEq] at h1
       obtain ⟨rfl, _⟩ := h1
       obtain ⟨u, hru, hvu⟩ := run_loadVar_rel h2 h4 h
       exact ⟨u, by simp [asAddr, hru], hvu⟩
     · cases h
  · cases h
theorem run_resultsS {s : St} {a : Act} {w : World} {Im : Nat → Prop} {θ : Th} (hS : SimF P ω s.size s.tmp s.hp.get a w Im θ) : ∀ (rs : List ResultVar) (vs : List SV), resultsS P s rs = some vs →
  ∃ us, (rs.mapM (resSem a.tmps)).run P w = .ok us w ∧ LRel P ω w Im θ vs us
 | [], vs, h => by simp [resultsS] at h; subst h; exact ⟨[], rfl, rfl, fun i v u hv _ => by simp at hv⟩
 | r :: rs, vs, h => by
  simp only [resultsS] at h
  cases hr : resultS P s r with
  | none => simp [hr] at h
  | some v =>
   cases hrs : resultsS P s rs with
   | none => simp [hr, hrs] at h
   | some vs' =>
    simp only [hr, hrs, Option.some.injEq] at h
    subst h
    obtain ⟨u, h1, h2⟩ := run_resultS hS hr
    obtain ⟨us, h3, h4⟩ := run_resultsS hS rs vs' hrs
    refine ⟨u :: us, ?_, by simp [h4.len], fun i v' u' hv hu => ?_⟩
    · rw [List.mapM_cons]
      simp only [Sem.run_bind, h1, h3, Result.andThen_ok, Sem.run_pure]
    · cases i with
      | zero => simp at hv hu; subst hv; subst hu; exact h2
      | succ i => exact h4.at_ i v' u' (by simpa using hv) (by simpa using hu)
theorem run_results {s : St} {a : Act} {w : World} {Im : Nat → Prop} {θ : Th} {f : Func} (hS : SimF P ω s.size s.tmp s.hp.get a w Im θ) {vs : List SV} (h : resultsS P s f.results.toList = some vs) :
  ∃ u, (results f a.tmps).run P w = .ok u w ∧ VRel P ω w Im θ (oneOrTup vs) u := by
 obtain ⟨us, h1, h2⟩ := run_resultsS hS _ _ h
 rw [results_eq]
 simp only [Sem.run_bind, Array.mapM_eq_mapM_toList, Sem.run_map, h1, Result.andThen_ok, Sem.run_pure]
 have hlen := h2.len
 match vs, us, hlen, h2 with
 | [], [], _, h2 => exact ⟨_, rfl, .tup rfl (fun i v u hv _ => by simp at hv)⟩
 | [v], [u], _, h2 => exact ⟨_, rfl, h2.at_ 0 v u rfl rfl⟩
 | v1 :: v2 :: vs, u1 :: u2 :: us, hl, h2 =>
  refine ⟨.tuple (u1 :: u2 :: us).toArray, ?_, .tup (by simpa using hl) (fun i v u hv hu => h2.at_ i v u hv (by simpa using hu))⟩
  simp
theorem body_calls {f : FuncId} {fn : Func} {c : Code} (hf : P.funcs[f]? = some fn) (hb : fn.body = some c) {s0 s2 : St} {e : Ex} (he : ∀ id, e ≠ .exit id) (hc : Comes P c s0 e s2) {us : List Value} {w : World} {Im : Nat → Prop} {θ : Th}
  (sim : Sim P ω none s0 { tmps := us.toArray ++ Array.replicate (fn.ntmps - us.toArray.size) undef, defers := [] } w Im θ) {vs : List SV} (hvs : resultsS P s2 fn.results.toList = some vs) {ρ : Option Nat} {R : Ending → World → Prop}
  (hR : ∀ u w' Im' θ', HRel P ω w' Im' θ' s2.hp.get → Fr s2.nx θ' s2.hp.get → Ext (fun x => s0.nx ≤ x) s0.hp.get w Im θ s2.hp.get w' Im' θ' → VRel P ω w' Im' θ' (oneOrTup vs) u → R (.returned u) w') : CallsIn (FR ρ) 0 P f us.toArray w R := by
 suffices h : CallsIn (FR none) 0 P f us.toArray w R by
  cases ρ with
  | none => exact h
  | some l => exact h
 refine callsIn_of_wp_marks hf hb trivial (hc.wp none _ _ w Im θ sim (fun a' w' Im' θ' sim' hE hN => ?_)) rfl
 have key : LeavesInM (FR none) 0 P fn a'.tmps R a'.defers .returning w' := by
  obtain ⟨rs, base, h1, hb, h2, h3⟩ := sim'.sf.df
  obtain ⟨rs', h4, h5⟩ := hN
  have hbase : base = [] := by
   refine List.eq_nil_iff_forall_not_mem.2 (fun d hd => ?_)
   have hm : d ∈ a'.defers := by rw [h1]; exact List.mem_append.2 (.inr hd)
   rw [h4] at hm
   simp only [List.append_nil, List.mem_map] at hm
   obtain ⟨q, _, e⟩ := hm
   exact hb d hd q e.symm
  subst hbase
  rw [List.append_nil] at h1
  have hge : ∀ r ∈ rs, w.heap.size ≤ r := by
   intro r hr
   have : mark r ∈ a'.defers := by rw [h1]; exact List.mem_map.2 ⟨r, hr, rfl⟩
   rw [h4] at this
   simp only [List.append_nil, List.mem_map] at this
   obtain ⟨q, hq, e⟩ := this
   simp only [mark, Deferred.mk.injEq, Target.collected.injEq, and_true] at e
   rw [← e]; exact h5 q hq
  rw [h1]
  refine leaves_marks rs w' h2 (fun r hr => (h3 r hr).1) (fun w3 g1 g2 g3 g4 g5 g6 => ?_)
  have hI : ∀ b, Im' b → Im' b ∧ w3.heap[b]? = w'.heap[b]? := fun b hb => ⟨hb, g2 b (fun hr => (h3 b hr).2.1 hb)⟩
  have hH : HRel P ω w3 Im' θ' s2.hp.get := by
   refine ⟨fun x c hx => (sim'.sf.hp.at_ x c hx).mono hI (fun _ _ h => h) rfl (fun b N hb => g2 b (fun hr => (h3 b hr).2.2 x c N hx hb)), sim'.sf.hp.inj, fun x c b N hx hb => ?_, fun b hb => by rw [g1]; exact sim'.sf.hp.im b hb, sim'.sf.hp.gl.mono hI⟩
   rw [g1]; exact sim'.sf.hp.own x c b N hx hb
  have hS : SimF P ω s2.size s2.tmp s2.hp.get { a' with defers := [] } w3 Im' θ' :=
   ⟨sim'.sf.size, fun t ht => (sim'.sf.tm t ht).mono hI (fun _ _ h => h), sim'.sf.out, Mk.nil, hH⟩
  obtain ⟨u, hu1, hu2⟩ := run_results (f := fn) hS hvs
  refine ⟨u, hu1, hR u w3 Im' θ' hH sim'.fr ?_ hu2⟩
  refine ⟨hE.thOld, hE.thUp, hE.imUp, by rw [g1]; exact hE.size, fun b hb hno => ?_, hE.imNew, hE.ownNew, g3.trans hE.os, g4.trans hE.output, g5.trans hE.tape, by rw [g6]; exact hE.drawn⟩
  rw [g2 b (fun hr => by have := hge b hr; omega)]
  exact hE.keep b hb hno
 cases e with
 | normal => exact key
 | ret => exact key
 | exit id => exact absurd rfl (he id)
theorem frame_sim {ρ : Option Nat} {s s2 : St} {a : Act} {w w' : World} {Im Im' : Nat → Prop} {θ θ' : Th} (sim : Sim P ω ρ s a w Im θ) (hs2 : StOk s2) (_ : Later s s2) (hH : HRel P ω w' Im' θ' s2.hp.get) (hF : Fr s2.nx θ' s2.hp.get)
  {new : Nat → Prop} (hE : Ext new s.hp.get w Im θ s2.hp.get w' Im' θ') : Sim P ω ρ { s2 with tm := s.tm, size := s.size, rd := s.rd } a w' Im' θ' := by
 have hm := hs2.m
 refine ⟨⟨sim.ok.size, hs2.nx, sim.ok.out, hs2.dom, hs2.m⟩, ⟨sim.sf.size, fun t ht => hE.val sim.sf.hp (sim.sf.tm t ht), sim.sf.out, sim.sf.df.step hE, hH⟩, hF, ?_⟩
 rcases sim.rd with h | ⟨y, b, N, h1, h2, h3⟩
 · exact .inl h
 · exact .inr ⟨y, b, N, h1, hE.thUp _ _ h2, h3⟩
section
variable {R D : Type} {fl : R} {den : R → Option D} (hfl : den fl = none) {rec : Rcr R} (hrec : RcrOk P den rec)
include hfl hrec
theorem callIn_run {f : Nat} {args : List SV} {s : St} {k : SV → St → R} {d : D} (hs : StOk s) (h : den (callIn fl P rec f args s k) = some d) :
  ∃ r s', StOk s' ∧ Later s s' ∧ s'.tm = s.tm ∧ s'.size = s.size ∧ s'.rd = s.rd ∧ den (k r s') = some d ∧ (∃ fn, P.funcs[f]? = some fn ∧ (fn.name == "runtime.NumGoroutine") = false ∧ fn.body.isNone = false) ∧
   ∀ (ω : Nat → Value) (ρ : Option Nat) (a : Act) (w : World) (Im : Nat → Prop) (θ : Th) (us : List Value) (R' : Ending → World → Prop), Sim P ω ρ s a w Im θ → LRel P ω w Im θ args us →
    (∀ u w' Im' θ', Sim P ω ρ s' a w' Im' θ' → Ext (fun x => s.nx ≤ x) s.hp.get w Im θ s'.hp.get w' Im' θ' → VRel P ω w' Im' θ' r u → R' (.returned u) w') → CallsIn (FR ρ) 0 P f us.toArray w R' := by
 unfold callIn at h
 cases hf : P.funcs[f]? with
 | none => rw [hf] at h; exact (fl_no hfl h).elim
 | some fn =>
  rw [hf] at h
  simp only [] at h
  cases hb : fn.body with
  | none => rw [hb] at h; exact (fl_no hfl h).elim
  | some c =>
   rw [hb] at h
   simp only [] at h
   cases hc : Nat.ble args.length fn.ntmps && Nat.blt fn.ntmps 16000 && !(fn.name == "runtime.NumGoroutine") with
   | false => rw [hc] at h; exact (fl_no hfl h).elim
   | true =>
    rw [hc] at h
    simp only [cond_true] at h
    simp only [Bool.and_eq_true, Bool.not_eq_true'] at hc
    obtain ⟨⟨c1, c2⟩, c3⟩ := hc
    have h1 : args.length ≤ fn.ntmps := by rwa [Nat.ble_eq] at c1
    have h2 : fn.ntmps < 16000 := by rwa [Nat.blt_eq] at c2
    obtain ⟨e, s2, hs2, hcm, h3⟩ := hrec _ _ _ _ (enter_ok hs h1 h2) h
    have he : ∀ id, e ≠ .exit id := by
     rintro id rfl
     exact fl_no hfl h3
    have h4 : den (match resultsS P s2 fn.results.toList with
     | some vs => k (oneOrTup vs) { s2 with tm := s.tm, size := s.size, rd := s.rd }
     | none => fl) = some d := by
     cases e with
     | exit id => exact absurd rfl (he id)
     | normal => exact h3
     | ret => exact h3
    cases hvs : resultsS P s2 fn.results.toList with
    | none => rw [hvs] at h4; exact (fl_no hfl h4).elim
    | some vs =>
     rw [hvs] at h4
     simp only [] at h4
     have hl : Later s s2 := ⟨hcm.later.m, hcm.later.nx, hcm.later.same, hcm.later.up, hcm.later.low⟩
     refine ⟨oneOrTup vs, { s2 with tm := s.tm, size := s.size, rd := s.rd }, ⟨hs.size, hs2.nx, hs.out, hs2.dom, hs2.m⟩, frame_later s s2 _ _ _ hl, rfl, rfl, rfl, h4, ⟨fn, rfl, c3, by rw [hb]; rfl⟩, ?_⟩
     intro ω ρ a w Im θ us R' sim hl' hR
     refine body_calls hf hb he hcm (enter_sim hs h1 h2 sim.sf.hp sim.fr hl') hvs (fun u w' Im' θ' hH hF hE hv => ?_)
     exact hR u w' Im' θ' (frame_sim sim hs2 hl hH hF hE) hE hv
end
end Go.Am
