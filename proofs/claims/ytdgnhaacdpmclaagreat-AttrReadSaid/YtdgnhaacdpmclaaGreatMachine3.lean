/- The abstract machine: a region, in whichever order. -/
import Derived.Test.YtdgnhaacdpmclaaGreatMachine2
import Derived.Orders
import Derived.OrdersIn
import Derived.RangeFuncRecord
import Derived.RangeFuncLeaves
import Derived.LoopNIn
import Derived.RangeFuncNested
import Derived.Scope
import Derived.ChangeSame
import Derived.ProofKit
import Derived.OpenShut
import Derived.Deep.Slices
import Derived.Lib.SmallJoins
namespace Go.Am
variable {P : Program} {ω : Nat → Value}
def evT (T : Nat → SV) : Operand → SV
 | .tmp t => T t
 | .const v => ofValue v
 | .func f => .fn (.func f) [] []
 | .global _ => .junk
def updT (T : Nat → SV) (dst : Option Nat) (v : SV) : Nat → SV :=
 match dst with
 | none => T
 | some d => fun t => if t = d then v else T t
def Mk (w : World) (Im : Nat → Prop) (θ : Th) (h : HpF) (ds : List Deferred) : Prop :=
 ∃ rs : List Nat, ds = rs.map (fun r => { target := .collected r, args := #[] }) ∧ rs.Nodup ∧
  ∀ r ∈ rs, w.heap[r]? = some (.deferred (some [])) ∧ ¬ Im r ∧ ∀ x c N, h x = some c → θ x ≠ some (r, N)
theorem Mk.nil {w : World} {Im : Nat → Prop} {θ : Th} {h : HpF} : Mk w Im θ h [] := ⟨[], rfl, List.nodup_nil, fun r hr => by cases hr⟩
theorem Mk.step {new : Nat → Prop} {h h' : HpF} {w w' : World} {Im Im' : Nat → Prop} {θ θ' : Th} {ds : List Deferred} (m : Mk w Im θ h ds) (he : Ext new h w Im θ h' w' Im' θ') : Mk w' Im' θ' h' ds := by
 obtain ⟨rs, h1, h2, h3⟩ := m
 refine ⟨rs, h1, h2, fun r hr => ?_⟩
 obtain ⟨a1, a2, a3⟩ := h3 r hr
 have hlt := heap_lt a1
 refine ⟨by rw [he.keep r hlt a3]; exact a1, fun hi => ?_, fun x c N hx hθ => ?_⟩
 · rcases he.imNew r hi with h4 | ⟨x, c, N, h4, h5⟩ | h4
   · exact a2 h4
   · exact a3 x c N h4 h5
   · omega
 · rcases he.ownNew x c r N hx hθ with ⟨y, c', N', h4, h5⟩ | h4
   · exact a3 y c' N' h4 h5
   · omega
structure SimF (P : Program) (ω : Nat → Value) (n : Nat) (T : Nat → SV) (h : HpF) (a : Act) (w : World) (Im : Nat → Prop) (θ : Th) : Prop where
 size : a.tmps.size = n
 tm : ∀ t, t < n → VRel P ω w Im θ (T t) (a.tmps.getD t undef)
 out : ∀ t, n ≤ t → T t = .junk
 df : Mk w Im θ h a.defers
 hp : HRel P ω w Im θ h
theorem SimF.eval {n : Nat} {T : Nat → SV} {h : HpF} {a : Act} {w : World} {Im : Nat → Prop} {θ : Th} (s : SimF P ω n T h a w Im θ) (x : Operand) : VRel P ω w Im θ (evT T x) (a.eval x) := by
 cases x with
 | tmp t =>
  simp only [evT, Act.eval]
  rcases Nat.lt_or_ge t n with h | h
  · exact s.tm t h
  · rw [s.out t h]; exact .junk
 | const v => exact ofValue_rel w Im θ v
 | global g => exact .junk
 | func f => exact .fn rfl rfl (fun i v u hv _ => by simp at hv) (fun i v u hv _ => by simp at hv)
def dstN (n : Nat) : Option Nat → Prop
 | none => True
 | some d => d < n
theorem put_size (a : Act) (dst : Option Nat) (v : Value) : (a.put dst v).tmps.size = a.tmps.size := by cases dst <;> simp [Act.put]
theorem put_defers (a : Act) (dst : Option Nat) (v : Value) : (a.put dst v).defers = a.defers := by cases dst <;> rfl
theorem SimF.step {n : Nat} {T : Nat → SV} {h h' : HpF} {a : Act} {w w' : World} {Im Im' : Nat → Prop} {θ θ' : Th} {new : Nat → Prop} (s : SimF P ω n T h a w Im θ) {dst : Option Nat} (hd : dstN n dst) {r : SV} {v : Value}
  (he : Ext new h w Im θ h' w' Im' θ') (hv : VRel P ω w' Im' θ' r v) (hr : HRel P ω w' Im' θ' h') : SimF P ω n (updT T dst r) h' (a.put dst v) w' Im' θ' := by
 refine ⟨by rw [put_size, s.size], fun t ht => ?_, fun t ht => ?_, by rw [put_defers]; exact s.df.step he, hr⟩
 · cases dst with
   | none => exact he.val s.hp (s.tm t ht)
   | some d =>
    have hd' : d < a.tmps.size := by rw [s.size]; exact hd
    by_cases htd : t = d
    · subst htd
      simp [updT, Act.put, Array.getD, hd', hv]
    · have := he.val s.hp (s.tm t ht)
      have ht' : t < a.tmps.size := by rw [s.size]; exact ht
      simp only [updT, if_neg htd, Act.put]
      have e : (a.tmps.setIfInBounds d v).getD t undef = a.tmps.getD t undef := by
       simp [Array.getD, ht', Ne.symm htd]
      rw [e]; exact this
 · cases dst with
   | none => exact s.out t ht
   | some d =>
    have : t ≠ d := by intro e; subst e; simp only [dstN] at hd; omega
    simp only [updT, if_neg this]
    exact s.out t ht
theorem SimF.skip {n : Nat} {T : Nat → SV} {h : HpF} {a : Act} {w : World} {Im : Nat → Prop} {θ : Th} (s : SimF P ω n T h a w Im θ) {dst : Option Nat} (hd : dstN n dst) : SimF P ω n (updT T dst (.tup [])) h (a.put dst undef) w Im θ :=
 s.step hd (Ext.refl (fun _ => False)) (.tup rfl (fun i v u hv _ => by simp at hv)) s.hp
def wantedT (all : List Oper) (n : Nat) (T : Nat → SV) (o : Oper) : Option Bool :=
 match o.guard with
 | none => some true
 | some (j, want) =>
  match all[j]? with
  | some oj => match oj.dst with
   | some d => if d < n then match T d with
    | .bool b => some (b == want)
    | .tup [] => some false
    | _ => none
    else none
   | none => none
  | none => none
theorem wanted_eq {all : List Oper} {n : Nat} {T : Nat → SV} {h : HpF} {a : Act} {w : World} {Im : Nat → Prop} {θ : Th} (s : SimF P ω n T h a w Im θ) {o : Oper} {b : Bool} (hw : wantedT all n T o = some b) :
  Region.wanted o (yielded all.toArray a.tmps) = b := by
 unfold wantedT at hw
 unfold Region.wanted
 cases hg : o.guard with
 | none => simp [hg] at hw; simp [hw]
 | some p =>
  obtain ⟨j, want⟩ := p
  simp only [hg] at hw
  cases hj : all[j]? with
  | none => simp [hj] at hw
  | some oj =>
   simp only [hj] at hw
   cases hd : oj.dst with
   | none => simp [hd] at hw
   | some d =>
    simp only [hd] at hw
    split at hw
    · rename_i hdn
      have hv := s.tm d hdn
      split at hw
      · rename_i c hc
        rw [hc] at hv
        have hlt : d < a.tmps.size := by rw [s.size]; exact hdn
        generalize hu : a.tmps.getD d undef = u at hv
        cases hv
        have hu' : a.tmps[d]? = some (.bool c) := by
         simp [Array.getD, hlt] at hu
         simp [hlt, hu]
        simp only [yielded, List.getElem?_toArray, hj, Option.bind_some, hd, hu']
        simp only [Option.some.injEq] at hw
        rw [← hw]
        cases c <;> cases want <;> rfl
      · rename_i hc
        rw [hc] at hv
        have hlt : d < a.tmps.size := by rw [s.size]; exact hdn
        generalize hu : a.tmps.getD d undef = u at hv
        cases hv with
        | tup h1 h2 =>
         rename_i us
         have hu' : a.tmps[d]? = some (.tuple us) := by
          simp [Array.getD, hlt] at hu
          simp [hlt, hu]
         simp only [yielded, List.getElem?_toArray, hj, Option.bind_some, hd, hu']
         simp only [Option.some.injEq] at hw
         rw [← hw]
         rfl
      · cases hw
    · cases hw
structure Rec where
 ex : Bool
 r : SV
 ups : List (Nat × Option Chunk)
 nx0 : Nat
 nx1 : Nat
 rs : List Nat
inductive Txt (P : Program) (κ : Nat → Option CSumm) (all : List Oper) (n : Nat) : List Oper → (Nat → SV) → HpF → Nat → List Rec → (Nat → SV) → HpF → Nat → Prop
 | nil {T : Nat → SV} {h : HpF} {nx : Nat} : Txt P κ all n [] T h nx [] T h nx
 | run {o : Oper} {os : List Oper} {T T' : Nat → SV} {h h' : HpF} {nx nx1 nx' : Nat} {r : SV} {ups : List (Nat × Option Chunk)} {rs : List Nat} {recs : List Rec} :
   dstN n o.dst → wantedT all n T o = some true → mrun h (opM P κ o (evT T) nx) = some (r, ups, nx1, rs) → Txt P κ all n os (updT T o.dst r) (updF ups h) nx1 recs T' h' nx' →
   Txt P κ all n (o :: os) T h nx (⟨true, r, ups, nx, nx1, rs⟩ :: recs) T' h' nx'
 | skip {o : Oper} {os : List Oper} {T T' : Nat → SV} {h h' : HpF} {nx nx' : Nat} {recs : List Rec} :
   dstN n o.dst → wantedT all n T o = some false → Txt P κ all n os (updT T o.dst (.tup [])) h nx recs T' h' nx' →
   Txt P κ all n (o :: os) T h nx (⟨false, .tup [], [], nx, nx, []⟩ :: recs) T' h' nx'
theorem opM0_congr {κ : Nat → Option CSumm} {o : Oper} {ev ev' : Operand → SV} (h : ∀ x ∈ o.op.operands, ev x = ev' x) (nx : Nat) : opM0 P κ o ev nx = opM0 P κ o ev' nx := by
 obtain ⟨dst, op, type, pos, after, guard⟩ := o
 have lst : ∀ (l : Array Operand), (∀ x ∈ l, ev x = ev' x) → l.toList.map ev = l.toList.map ev' := fun l hl => List.map_congr_left fun x hx => hl x (by simpa using hx)
 cases op <;> simp only [Op.operands] at h <;> simp only [opM0]
 case move x => rw [h x (by simp)]
 case assign x => rw [h x (by simp)]
 case pick c x y => rw [h c (by simp), h x (by simp), h y (by simp)]
 case box t x => rw [h x (by simp)]
 case build t ps =>
  have : (ps.toList.map fun p => (p.1, ev p.2)) = ps.toList.map fun p => (p.1, ev' p.2) := List.map_congr_left fun p hp => by
   rw [h p.2 (by simp; exact ⟨p.1, by simpa using hp⟩)]
  rw [this]
 case load t x => rw [h x (by simp)]
 case store t x v => rw [h x (by simp), h v (by simp)]
 case nilCheck x => rw [h x (by simp)]
 case binOp op t x y yt => rw [h x (by simp), h y (by simp)]
 case unOp op t x => rw [h x (by simp)]
 case convert s d x => rw [h x (by simp)]
 case makeFunc f as bs =>
  rw [lst as (fun x hx => h x (by simp [hx])), lst bs (fun x hx => h x (by simp [hx]))]
 case fieldAddr t x f => rw [h x (by simp)]
 case field t x f => rw [h x (by simp)]
 case extract x i => rw [h x (by simp)]
 case buildSlice t n ps =>
  have : (ps.toList.map fun p => (p.1, ev p.2)) = ps.toList.map fun p => (p.1, ev' p.2) := List.map_congr_left fun p hp => by
   rw [h p.2 (by simp; exact ⟨p.1, by simpa using hp⟩)]
  rw [this]
 case makeSlice t l c => rw [h l (by simp), h c (by simp)]
 case slice t x lo hi mx =>
  have o : ∀ (l : Option Operand), (∀ y, l = some y → ev y = ev' y) → l.map ev = l.map ev' := fun l hl => by cases l with
   | none => rfl
   | some y => simp [hl y rfl]
  rw [h x (by simp), o lo (fun y e => h y (by simp [e])), o hi (fun y e => h y (by simp [e])), o mx (fun y e => h y (by simp [e]))]
 case indexAddr t x ix => rw [h x (by simp), h ix (by simp)]
 case index t x ix => rw [h x (by simp), h ix (by simp)]
 case call c =>
  cases hc : c.callee with
  | value f =>
   simp only []
   rw [h f (by simp [Call.operands, hc]), lst c.args (fun x hx => h x (by simp [Call.operands, hx]))]
  | invoke r m =>
   simp only []
   rw [h r (by simp [Call.operands, hc]), lst c.args (fun x hx => h x (by simp [Call.operands, hx]))]
  | builtin b =>
   simp only []
   rw [lst c.args (fun x hx => h x (by simp [Call.operands, hx]))]
theorem opM_congr {κ : Nat → Option CSumm} {o : Oper} {ev ev' : Operand → SV} (h : ∀ x ∈ o.op.operands, ev x = ev' x) (nx : Nat) : opM P κ o ev nx = opM P κ o ev' nx := by
 have e : o.op.operands.toList.map ev = o.op.operands.toList.map ev' := List.map_congr_left fun x hx => h x (by simpa using hx)
 unfold opM
 rw [opM0_congr h nx, e]
theorem mrun_congr {h h' : HpF} {r : SV} {ups : List (Nat × Option Chunk)} {nx : Nat} : ∀ (m : OpM) (rs : List Nat), mrun h m = some (r, ups, nx, rs) → (∀ x ∈ rs, h' x = h x) → mrun h' m = some (r, ups, nx, rs)
 | .done _ _ _, rs, hm, _ => by simpa [mrun] using hm
 | .get x f, rs, hm, hh => by
  simp only [mrun] at hm ⊢
  cases hx : h x with
  | none => simp [hx] at hm
  | some c =>
   simp only [hx] at hm
   cases hr : mrun h (f c) with
   | none => simp [hr] at hm
   | some q =>
    obtain ⟨r0, u0, n0, rs0⟩ := q
    simp only [hr, Option.some.injEq, Prod.mk.injEq] at hm
    obtain ⟨rfl, rfl, rfl, rfl⟩ := hm
    rw [hh x (by simp), hx]
    simp only []
    rw [mrun_congr (f c) rs0 hr (fun y hy => hh y (by simp [hy]))]
 | .ite b t e, rs, hm, hh => by
  simp only [mrun] at hm ⊢
  cases b
  · simp only [Bool.false_eq_true, if_false] at hm ⊢; exact mrun_congr e rs hm hh
  · simp only [if_true] at hm ⊢; exact mrun_congr t rs hm hh
 | .fail, rs, hm, _ => by simp [mrun] at hm
theorem mrun_reads {h : HpF} {r : SV} {ups : List (Nat × Option Chunk)} {nx : Nat} : ∀ (m : OpM) (rs : List Nat), mrun h m = some (r, ups, nx, rs) → ∀ x ∈ rs, ∃ c, h x = some c
 | .done _ _ _, rs, hm, x, hx => by
  simp only [mrun, Option.some.injEq, Prod.mk.injEq] at hm
  rw [← hm.2.2.2] at hx; cases hx
 | .get y f, rs, hm, x, hx => by
  simp only [mrun] at hm
  cases hy : h y with
  | none => simp [hy] at hm
  | some c =>
   simp only [hy] at hm
   cases hr : mrun h (f c) with
   | none => simp [hr] at hm
   | some q =>
    obtain ⟨r0, u0, n0, rs0⟩ := q
    simp only [hr, Option.some.injEq, Prod.mk.injEq] at hm
    obtain ⟨rfl, rfl, rfl, rfl⟩ := hm
    rcases List.mem_cons.1 hx with rfl | hx
    · exact ⟨c, hy⟩
    · exact mrun_reads (f c) rs0 hr x hx
 | .ite b t e, rs, hm, x, hx => by
  simp only [mrun] at hm
  cases b
  · simp only [Bool.false_eq_true, if_false] at hm; exact mrun_reads e rs hm x hx
  · simp only [if_true] at hm; exact mrun_reads t rs hm x hx
 | .fail, rs, hm, _, _ => by simp [mrun] at hm
def Quiet (m : OpM) (nx : Nat) : Prop := ∀ (h : HpF) r ups nx' rs, mrun h m = some (r, ups, nx', rs) → ups = [] ∧ nx' = nx
theorem Quiet.done (r : SV) (nx : Nat) : Quiet (.done r [] nx) nx := fun h r' ups nx' rs hm => by
 obtain ⟨_, rfl, rfl, _⟩ := mrun_done hm; exact ⟨rfl, rfl⟩
theorem Quiet.fail (nx : Nat) : Quiet .fail nx := fun h r' ups nx' rs hm => by simp [mrun] at hm
theorem Quiet.ite {b : Bool} {t e : OpM} {nx : Nat} (h1 : Quiet t nx) (h2 : Quiet e nx) : Quiet (.ite b t e) nx := fun h r ups nx' rs hm => by
 simp only [mrun] at hm
 split at hm
 · exact h1 h r ups nx' rs hm
 · exact h2 h r ups nx' rs hm
theorem quiet_intBin (op : BinOp) (k : IntKind) (a b : Int) (m : OpM) (nx : Nat) : Quiet (intBin op k a b m nx) nx := by
 cases op <;> simp only [intBin] <;> first
  | exact Quiet.done _ _
  | exact Quiet.fail _
  | exact Quiet.ite (Quiet.fail _) (Quiet.done _ _)
theorem quiet_shift (op : BinOp) (k : IntKind) (a b : Int) (nx : Nat) : Quiet (shiftS op k a b nx) nx := by
 unfold shiftS
 cases op <;> simp only [] <;> first
  | exact Quiet.fail _
  | exact Quiet.ite (Quiet.fail _) (Quiet.done _ _)
theorem quiet_str (op : BinOp) (a b : List UInt8) (nx : Nat) : Quiet (strBin op a b nx) nx := by
 unfold strBin
 cases op <;> simp only [] <;> first
  | exact Quiet.done _ _
  | exact Quiet.fail _
  | exact Quiet.ite (Quiet.done _ _) (Quiet.fail _)
theorem quiet_bin (op : BinOp) (t : TypeId) (x y : SV) (nx : Nat) : Quiet (binS P op t x y nx) nx := by
 unfold binS
 split
 · split
   · exact quiet_shift _ _ _ _ _
   · exact quiet_shift _ _ _ _ _
   · cases ikEq _ _
     · exact Quiet.fail _
     · exact quiet_intBin _ _ _ _ .fail _
 · exact quiet_str _ _ _ _
 · split <;> first | exact Quiet.done _ _ | exact Quiet.fail _
 · rename_i as bs
   cases isAggT P t && plainEq P 40 t && !P.eqGuardType P.depth t && fitsAll P (leaves P 40 t) as && fitsAll P (leaves P 40 t) bs with
   | false => exact Quiet.fail _
   | true => simp only [cond_true]; split <;> first | exact Quiet.done _ _ | exact Quiet.fail _
 · exact Quiet.fail _
theorem quiet_conv (s d : TypeId) (x : SV) (nx : Nat) : Quiet (convS P s d x nx) nx := by
 unfold convS
 split <;> first | exact Quiet.done _ _ | exact Quiet.fail _
theorem quiet_build (t : TypeId) (ps : List (Nat × SV)) (nx : Nat) : Quiet (buildS P t ps nx) nx := by
 unfold buildS
 cases buildOk P t with
 | false => exact Quiet.fail _
 | true =>
  simp only [cond_true]
  split
  · split <;> first | exact Quiet.done _ _ | exact Quiet.fail _
  · exact Quiet.fail _
theorem quiet_indexAddr (t : TypeId) (x ix : SV) (nx : Nat) : Quiet (indexAddrS P t x ix nx) nx := by
 unfold indexAddrS
 split
 · rename_i e _ _ _
   cases knownT P e
   · exact Quiet.fail _
   · exact Quiet.ite (Quiet.done _ _) (Quiet.fail _)
 · rename_i e _ _ _ _ _
   cases knownT P e
   · exact Quiet.fail _
   · exact Quiet.ite (Quiet.done _ _) (Quiet.fail _)
 · exact Quiet.fail _
theorem quiet_index (t : TypeId) (x ix : SV) (nx : Nat) : Quiet (indexS P t x ix nx) nx := by
 unfold indexS
 split
 · rename_i e _ _
   cases knownT P e
   · exact Quiet.fail _
   · simp only [cond_true]
     split
     · exact Quiet.ite (Quiet.done _ _) (Quiet.fail _)
     · exact Quiet.fail _
 · exact Quiet.ite (Quiet.done _ _) (Quiet.fail _)
 · exact Quiet.fail _
theorem quiet_builtin (b : Builtin) (tys : List TypeId) (args : List SV) (nx : Nat) : Quiet (builtinS P b tys args nx) nx := by
 unfold builtinS
 split
 · unfold lenS
   split <;> first | exact Quiet.done _ _ | exact Quiet.fail _
 · exact Quiet.fail _
theorem getD_mem (l : List Nat) (i : Nat) (h : i < l.length) : l.getD i 0 ∈ l := by
 have : l.getD i 0 = l[i] := by simp [List.getD_eq_getElem?_getD, h]
 rw [this]; exact List.getElem_mem h
theorem callS_wf {s : CSumm} {args : List SV} {h : HpF} {r : SV} {ups : List (Nat × Option Chunk)} {nx nx' : Nat} {rs : List Nat} (hm : mrun h (callS s args nx) = some (r, ups, nx', rs)) :
  nx ≤ nx' ∧ ∀ p ∈ ups, p.1 ∈ rs ∨ (nx ≤ p.1 ∧ p.1 < nx') := by
 unfold callS at hm
 dsimp only at hm
 obtain ⟨acc, rs1, rs2, hcl, hclosed, hargs, -, hrd, hm2, rfl⟩ := closeM_spec _ _ _ _ hm ⟨(fun p hp => by cases hp), List.nodup_nil⟩ (fun p hp => by cases hp)
 obtain ⟨v, u, hrun, rfl, rfl, rfl⟩ := ofCTree_run _ hm2
 refine ⟨by omega, fun p hp => ?_⟩
 have hk : p.1 ∈ (backUps _ u).map (·.1) := List.mem_map.2 ⟨p, hp, rfl⟩
 rw [backUps_keys] at hk
 obtain ⟨q, hq, he⟩ := List.mem_map.1 hk
 rw [← he]
 have hqb := boundN_mem (namesS v ++ namesU u) (acc.reverse.map (·.1)).length q.1 (List.mem_append.2 (.inr (namesU_key hq)))
 unfold backName
 cases hb : Nat.blt q.1 (acc.reverse.map (·.1)).length with
 | true =>
  simp only [cond_true]
  rw [Nat.blt_eq] at hb
  left
  have := getD_mem _ _ hb
  have : (acc.reverse.map (·.1)).getD q.1 0 ∈ acc.map (·.1) := by simpa using this
  rcases hrd _ this with h1 | h1
  · cases h1
  · exact List.mem_append.2 (.inl h1)
 | false =>
  simp only [cond_false]
  have : ¬ q.1 < (acc.reverse.map (·.1)).length := by intro hh; rw [← Nat.blt_eq] at hh; rw [hh] at hb; cases hb
  right
  omega
theorem opM0_wf {κ : Nat → Option CSumm} {o : Oper} {ev : Operand → SV} {h : HpF} {r : SV} {ups : List (Nat × Option Chunk)} {nx nx' : Nat} {rs : List Nat} (hm : mrun h (opM0 P κ o ev nx) = some (r, ups, nx', rs)) :
  nx ≤ nx' ∧ ∀ p ∈ ups, p.1 ∈ rs ∨ (nx ≤ p.1 ∧ p.1 < nx') := by
 have quiet : ∀ {m : OpM}, Quiet m nx → mrun h m = some (r, ups, nx', rs) → nx ≤ nx' ∧ ∀ p ∈ ups, p.1 ∈ rs ∨ (nx ≤ p.1 ∧ p.1 < nx') := by
  intro m hq hm
  obtain ⟨rfl, rfl⟩ := hq h r ups nx' rs hm
  exact ⟨Nat.le_refl _, fun p hp => by cases hp⟩
 have new : ∀ {r0 : SV} {c : Option Chunk}, mrun h (.done r0 [(nx, c)] (nx + 1)) = some (r, ups, nx', rs) → nx ≤ nx' ∧ ∀ p ∈ ups, p.1 ∈ rs ∨ (nx ≤ p.1 ∧ p.1 < nx') := by
  intro r0 c hm
  obtain ⟨_, rfl, rfl, _⟩ := mrun_done hm
  exact ⟨by omega, fun p hp => by simp at hp; subst hp; exact .inr (by omega)⟩
 obtain ⟨dst, op, type, pos, after, guard⟩ := o
 cases op <;> simp only [opM0] at hm <;> try (simp [mrun] at hm; done)
 case move x => exact quiet (Quiet.done _ _) hm
 case assign x => exact quiet (Quiet.done _ _) hm
 case pick c x y =>
  split at hm
  · exact quiet (Quiet.ite (Quiet.done _ _) (Quiet.done _ _)) hm
  · exact quiet (Quiet.fail _) hm
 case alloc t =>
  split at hm
  · split at hm
    · exact new hm
    · exact quiet (Quiet.fail _) hm
  · exact quiet (Quiet.fail _) hm
 case box t x =>
  split at hm
  · exact new hm
  · exact quiet (Quiet.fail _) hm
 case build t ps => exact quiet (quiet_build _ _ _) hm
 case load t x =>
  split at hm
  · rename_i y off he
    simp only [mrun] at hm
    cases hy : h y with
    | none => simp [hy] at hm
    | some c =>
     simp only [hy] at hm
     cases c with
     | seq e es => simp [mrun] at hm
     | loopr => simp [mrun] at hm
     | mpc => simp [mrun] at hm
     | mpb => simp [mrun] at hm
     | cells T vs =>
      simp only [] at hm
      cases hp : partS P t vs off with
      | none => simp [hp, mrun] at hm
      | some v =>
       simp only [hp, mrun, Option.some.injEq, Prod.mk.injEq] at hm
       obtain ⟨rfl, rfl, rfl, rfl⟩ := hm
       exact ⟨Nat.le_refl _, fun p hp => by cases hp⟩
  · exact quiet (Quiet.fail _) hm
 case store t x v =>
  split at hm
  · rename_i y off vs he hc
    cases hb : Nat.beq vs.length (P.cellsOf t) && knownT P t with
    | false => simp [hb, mrun] at hm
    | true =>
     simp only [hb, cond_true, mrun] at hm
     cases hy : h y with
     | none => simp [hy] at hm
     | some c =>
      simp only [hy] at hm
      cases c with
      | seq e es => simp [mrun] at hm
      | loopr => simp [mrun] at hm
      | mpc => simp [mrun] at hm
      | mpb => simp [mrun] at hm
      | cells T cs =>
       simp only [] at hm
       cases hs : splice cs off vs with
       | none => simp [hs, mrun] at hm
       | some cs' =>
        simp only [hs, mrun, Option.some.injEq, Prod.mk.injEq] at hm
        obtain ⟨rfl, rfl, rfl, rfl⟩ := hm
        exact ⟨Nat.le_refl _, fun p hp => by simp at hp; subst hp; exact .inl (by simp)⟩
  · exact quiet (Quiet.fail _) hm
 case nilCheck x => split at hm <;> first | exact quiet (Quiet.done _ _) hm | exact quiet (Quiet.fail _) hm
 case binOp op t x y yt =>
  split at hm
  · exact quiet (Quiet.done _ _) hm
  · exact quiet (Quiet.done _ _) hm
  · exact quiet (quiet_bin _ _ _ _ _) hm
 case unOp op t x => split at hm <;> first | exact quiet (Quiet.done _ _) hm | exact quiet (Quiet.fail _) hm
 case convert s d x => exact quiet (quiet_conv _ _ _ _) hm
 case makeFunc f as bs => split at hm <;> first | exact quiet (Quiet.done _ _) hm | exact quiet (Quiet.fail _) hm
 case fieldAddr t x f =>
  split at hm
  · split at hm
    · rename_i fd _
      cases hz : Nat.beq (P.cellsOf fd.type) 0 with
      | true => rw [hz] at hm; exact quiet (Quiet.fail _) hm
      | false => rw [hz] at hm; exact quiet (Quiet.done _ _) hm
    · exact quiet (Quiet.fail _) hm
  · exact quiet (Quiet.fail _) hm
 case field t x f =>
  split at hm
  · split at hm
    · split at hm
      · exact quiet (Quiet.done _ _) hm
      · exact quiet (Quiet.fail _) hm
    · exact quiet (Quiet.fail _) hm
  · exact quiet (Quiet.fail _) hm
 case extract x i =>
  split at hm
  · split at hm
    · exact quiet (Quiet.done _ _) hm
    · exact quiet (Quiet.fail _) hm
  · exact quiet (Quiet.fail _) hm
 case buildSlice t n ps =>
  unfold buildSliceS at hm
  split at hm
  · rename_i e _
    cases hk : knownT P e && Nat.ble (n * P.cellsOf e) 16777216 && !(Nat.beq (P.cellsOf e) 0) with
    | false => rw [hk] at hm; exact quiet (Quiet.fail _) hm
    | true =>
     rw [hk] at hm
     simp only [cond_true] at hm
     split at hm
     · split at hm
       · rename_i zs _
         cases hb : Nat.beq zs.length (P.cellsOf e) with
         | false => rw [hb] at hm; exact quiet (Quiet.fail _) hm
         | true =>
          rw [hb] at hm
          simp only [cond_true] at hm
          split at hm
          · exact new hm
          · exact quiet (Quiet.fail _) hm
       · exact quiet (Quiet.fail _) hm
     · exact quiet (Quiet.fail _) hm
  · exact quiet (Quiet.fail _) hm
 case makeSlice t l c =>
  unfold makeSliceS at hm
  split at hm
  · rename_i e _ a _ b _ _ _
    split at hm
    · split at hm
      · split at hm
        · rename_i zs _
          cases hb : Nat.beq zs.length (P.cellsOf e) && !(Nat.beq (P.cellsOf e) 0) with
          | false => rw [hb] at hm; exact quiet (Quiet.fail _) hm
          | true =>
           rw [hb] at hm
           simp only [cond_true] at hm
           unfold mrun at hm
           split at hm
           · exact new hm
           · cases hm
        · exact quiet (Quiet.fail _) hm
      · exact quiet (Quiet.fail _) hm
    · exact quiet (Quiet.fail _) hm
  · exact quiet (Quiet.fail _) hm
 case slice t x lo hi mx =>
  refine quiet ?_ hm
  unfold sliceS
  split
  · split
    · have qc : ∀ (b : Bool) (m : OpM), Quiet m nx → Quiet (bif b then m else .fail) nx := fun b m h => by
        cases b
        · exact Quiet.fail _
        · exact h
      refine qc _ _ ?_
      unfold slicedS
      exact Quiet.ite (Quiet.ite (Quiet.done _ _) (Quiet.done _ _)) (Quiet.fail _)
    · exact Quiet.fail _
  · exact Quiet.fail _
 case indexAddr t x ix => exact quiet (quiet_indexAddr _ _ _ _) hm
 case index t x ix => exact quiet (quiet_index _ _ _ _) hm
 case call c =>
  split at hm
  · split at hm
    · rename_i g first caps _
      unfold callM at hm
      cases hk : κ g with
      | none => simp [hk, mrun] at hm
      | some s =>
       simp only [hk] at hm
       exact callS_wf hm
    · exact quiet (Quiet.fail _) hm
  · exact quiet (quiet_builtin _ _ _ _) hm
  · split at hm
    · split at hm
      · rename_i g _
        unfold callM at hm
        cases hk : κ g with
        | none => simp [hk, mrun] at hm
        | some s =>
         simp only [hk] at hm
         exact callS_wf hm
      · exact quiet (Quiet.fail _) hm
    · exact quiet (Quiet.fail _) hm
theorem opM_wf {κ : Nat → Option CSumm} {o : Oper} {ev : Operand → SV} {h : HpF} {r : SV} {ups : List (Nat × Option Chunk)} {nx nx' : Nat} {rs : List Nat} (hm : mrun h (opM P κ o ev nx) = some (r, ups, nx', rs)) :
  nx ≤ nx' ∧ ∀ p ∈ ups, p.1 ∈ rs ∨ (nx ≤ p.1 ∧ p.1 < nx') := by
 rcases opM_cases (P := P) (κ := κ) (o := o) (ev := ev) (nx := nx) with hc | hc <;> rw [hc] at hm
 · obtain ⟨-, h1, h2⟩ := chkM_run hm
   refine ⟨h1, fun p hp => ?_⟩
   rcases h2 p hp with h3 | h3 | h3
   · cases h3
   · exact .inl h3
   · exact .inr h3
 · exact opM0_wf hm
/- In the order of the text. -/
def Fr (nx : Nat) (θ : Th) (h : HpF) : Prop := ∀ x, nx ≤ x → θ x = none ∧ h x = none
theorem Fr.step {nx nx' : Nat} {θ θ' : Th} {h : HpF} {w w' : World} {Im Im' : Nat → Prop} {ups : List (Nat × Option Chunk)} {rs : List Nat} (f : Fr nx θ h) (hle : nx ≤ nx') (hk : ∀ p ∈ ups, p.1 ∈ rs ∨ (nx ≤ p.1 ∧ p.1 < nx')) (hrs : ∀ x ∈ rs, ∃ c, h x = some c)
  (he : Ext (fun x => nx ≤ x ∧ x < nx') h w Im θ (updF ups h) w' Im' θ') : Fr nx' θ' (updF ups h) := by
 intro x hx
 refine ⟨by rw [he.thOld x (by omega)]; exact (f x (by omega)).1, ?_⟩
 rw [updF_not]
 · exact (f x (by omega)).2
 · intro hh
   obtain ⟨p, hp, rfl⟩ := List.mem_map.1 hh
   rcases hk p hp with h1 | h1
   · obtain ⟨c, hc⟩ := hrs _ h1
     rw [(f p.1 (by omega)).2] at hc; cases hc
   · omega
theorem seq_sound {κ : Nat → Option CSumm} (hκ : KOk P κ) {all : List Oper} {n : Nat} {nx0 : Nat} {h0 : HpF} {w0 : World} {Im0 : Nat → Prop} {θ0 : Th} {ro : Option Nat} {ds : List Deferred} {Q : Exit → Act → World → Prop} :
  ∀ {os : List Oper} {T T' : Nat → SV} {h h' : HpF} {nx nx' : Nat} {recs : List Rec}, Txt P κ all n os T h nx recs T' h' nx' →
   ∀ (i : Nat) (a : Act) (w : World) (Im : Nat → Prop) (θ : Th), all.drop i = os → a.defers = ds → SimF P ω n T h a w Im θ → Fr nx θ h → nx0 ≤ nx → Ext (fun x => nx0 ≤ x) h0 w0 Im0 θ0 h w Im θ →
   (∀ a' w' Im' θ', a'.defers = ds → SimF P ω n T' h' a' w' Im' θ' → Fr nx' θ' h' → nx0 ≤ nx' → Ext (fun x => nx0 ≤ x) h0 w0 Im0 θ0 h' w' Im' θ' → Q .normal a' w') → wpOpsIn (FR ro) 0 P all.toArray Q (List.range' i os.length) a w := by
 intro os T T' h h' nx nx' recs ht
 induction ht with
 | nil =>
  intro i a w Im θ _ hdf hs hf hn he hQ
  exact hQ a w Im θ hdf hs hf hn he
 | run hd hw hm _ ih =>
  rename_i o os T T' h h' nx nx1 nx' r ups rs recs _
  intro i a w Im θ hall hdf hs hf hn he hQ
  have ho : all[i]? = some o := by
   have := congrArg (·[0]?) hall
   simpa using this
  obtain ⟨hle, hkeys⟩ := opM_wf hm
  simp only [List.length_cons, List.range'_succ, wpOpsIn, List.getElem?_toArray, ho]
  rw [wanted_eq hs hw]
  simp only [if_true]
  refine op_good hκ hs.hp (fun x _ => hs.eval x) (fun x h1 h2 => hf x h1) hm ro _ _ (fun v w' Im' θ' hE hv hH => ?_)
  have hs' := hs.step hd hE hv hH
  refine ih (i + 1) _ w' Im' θ' ?_ (by rw [put_defers]; exact hdf) hs' (hf.step hle hkeys (mrun_reads _ _ hm) hE) (by omega) (he.trans (hE.mono (fun x hx => by omega))) hQ
  have := congrArg List.tail hall
  simpa using this
 | skip hd hw _ ih =>
  rename_i o os T T' h h' nx nx' recs _
  intro i a w Im θ hall hdf hs hf hn he hQ
  have ho : all[i]? = some o := by
   have := congrArg (·[0]?) hall
   simpa using this
  simp only [List.length_cons, List.range'_succ, wpOpsIn, List.getElem?_toArray, ho]
  rw [wanted_eq hs hw]
  simp only [Bool.false_eq_true, if_false]
  refine ⟨fun f _ => FR_fn ro f, ih (i + 1) _ w Im θ ?_ (by rw [put_defers]; exact hdf) (hs.skip hd) hf hn he hQ⟩
  have := congrArg List.tail hall
  simpa using this
/- In any order. -/
abbrev OR := List (Oper × Rec)
def TD : OR → (Nat → Bool) → Nat → (Nat → SV) → (Nat → SV)
 | [], _, _, T => T
 | (o, ρ) :: l, D, i, T => TD l D (i + 1) (if D i then updT T o.dst ρ.r else T)
def HD : OR → (Nat → Bool) → Nat → HpF → HpF
 | [], _, _, h => h
 | (_, ρ) :: l, D, i, h => HD l D (i + 1) (if D i then updF ρ.ups h else h)
theorem TD_congr : ∀ (l : OR) (D D' : Nat → Bool) (i : Nat) (T T' : Nat → SV) (t : Nat), T t = T' t → (∀ j o ρ, l[j]? = some (o, ρ) → o.dst = some t → D (i + j) = D' (i + j)) → TD l D i T t = TD l D' i T' t
 | [], _, _, _, _, _, _, h, _ => h
 | (o, ρ) :: l, D, D', i, T, T', t, h, hj => by
  simp only [TD]
  refine TD_congr l D D' (i + 1) _ _ t ?_ (fun j o' ρ' hl hd => by
   have := hj (j + 1) o' ρ' (by simpa using hl) hd
   rwa [show i + 1 + j = i + (j + 1) by omega])
  by_cases hd : o.dst = some t
  · have := hj 0 o ρ rfl hd
    simp only [Nat.add_zero] at this
    rw [this]
    cases D' i <;> simp [updT, hd, h]
  · have e : ∀ (S : Nat → SV), updT S o.dst ρ.r t = S t := by
      intro S
      cases ho : o.dst with
      | none => rfl
      | some d =>
       have : t ≠ d := by intro e; subst e; exact hd ho
       simp [updT, this]
    cases D i <;> cases D' i <;> simp [e, h]
theorem HD_congr : ∀ (l : OR) (D D' : Nat → Bool) (i : Nat) (h h' : HpF) (x : Nat), h x = h' x → (∀ j o ρ, l[j]? = some (o, ρ) → x ∈ ρ.ups.map (·.1) → D (i + j) = D' (i + j)) → HD l D i h x = HD l D' i h' x
 | [], _, _, _, _, _, _, h, _ => h
 | (o, ρ) :: l, D, D', i, h, h', x, hx, hj => by
  simp only [HD]
  refine HD_congr l D D' (i + 1) _ _ x ?_ (fun j o' ρ' hl hd => by
   have := hj (j + 1) o' ρ' (by simpa using hl) hd
   rwa [show i + 1 + j = i + (j + 1) by omega])
  by_cases hd : x ∈ ρ.ups.map (·.1)
  · have := hj 0 o ρ rfl hd
    simp only [Nat.add_zero] at this
    rw [this]
    cases D' i
    · simpa using hx
    · simp only [if_true]; exact updF_key hd
  · have e : ∀ (S : HpF), updF ρ.ups S x = S x := fun S => updF_not hd
    cases D i <;> cases D' i <;> simp [e, hx]
theorem TD_add : ∀ (l : OR) (D : Nat → Bool) (i k : Nat) (T : Nat → SV) (o : Oper) (ρ : Rec), l[k]? = some (o, ρ) → D (i + k) = false → (∀ j o' ρ', k < j → l[j]? = some (o', ρ') → D (i + j) = true → ∀ d, o.dst = some d → o'.dst ≠ some d) →
  TD l (fun j => D j || j == i + k) i T = updT (TD l D i T) o.dst ρ.r
 | [], _, _, _, _, _, _, h, _, _ => by simp at h
 | (o1, ρ1) :: l, D, i, 0, T, o, ρ, h, hD, hj => by
  simp only [List.getElem?_cons_zero, Option.some.injEq, Prod.mk.injEq] at h
  obtain ⟨rfl, rfl⟩ := h
  simp only [Nat.add_zero] at hD
  funext t
  simp only [TD, Nat.add_zero, beq_self_eq_true, Bool.or_true, if_true, hD, Bool.false_eq_true, if_false]
  by_cases hd : o1.dst = some t
  · have e1 : TD l (fun j => D j || j == i) (i + 1) (updT T o1.dst ρ1.r) t = updT T o1.dst ρ1.r t := by
      have gen : ∀ (l' : OR) (i' : Nat) (S : Nat → SV), (∀ j o' ρ', l'[j]? = some (o', ρ') → (fun j => D j || j == i) (i' + j) = true → o'.dst ≠ some t) → TD l' (fun j => D j || j == i) i' S t = S t := by
       intro l'
       induction l' with
       | nil => intros; rfl
       | cons p l' ih =>
        obtain ⟨o2, ρ2⟩ := p
        intro i' S hh
        simp only [TD]
        rw [ih (i' + 1) _ (fun j o' ρ' hl hD' => hh (j + 1) o' ρ' (by simpa using hl) (by rwa [show i' + (j + 1) = i' + 1 + j by omega]))]
        split
        · rename_i hDi
          have := hh 0 o2 ρ2 rfl (by simpa using hDi)
          cases h2 : o2.dst with
          | none => rfl
          | some d2 =>
           have : t ≠ d2 := by intro e; subst e; exact this h2
           simp [updT, this]
        · rfl
      refine gen l (i + 1) _ (fun j o' ρ' hl hD' => ?_)
      refine hj (j + 1) o' ρ' (by omega) (by simpa using hl) ?_ t hd
      rw [show i + (j + 1) = i + 1 + j by omega]
      simp only [Bool.or_eq_true] at hD'
      rcases hD' with h1 | h1
      · exact h1
      · simp at h1; omega
    rw [e1]
    simp [updT, hd]
  · have e : ∀ (S : Nat → SV), updT S o1.dst ρ1.r t = S t := by
      intro S
      cases ho : o1.dst with
      | none => rfl
      | some d =>
       have : t ≠ d := by intro e; subst e; exact hd ho
       simp [updT, this]
    rw [e]
    refine TD_congr l _ _ (i + 1) _ _ t (e T) (fun j o' ρ' hl hd' => ?_)
    have : (i + 1 + j == i) = false := by simp; omega
    simp [this]
 | (o1, ρ1) :: l, D, i, k + 1, T, o, ρ, h, hD, hj => by
  simp only [TD]
  have hne : (i == i + (k + 1)) = false := by simp
  simp only [hne, Bool.or_false]
  rw [show (fun j => D j || j == i + (k + 1)) = (fun j => D j || j == (i + 1) + k) by funext j; rw [show i + (k + 1) = i + 1 + k by omega]]
  exact TD_add l D (i + 1) k _ o ρ (by simpa using h) (by rwa [show i + 1 + k = i + (k + 1) by omega]) (fun j o' ρ' hkj hl hD' => hj (j + 1) o' ρ' (by omega) (by simpa using hl) (by rwa [show i + (j + 1) = i + 1 + j by omega]))
theorem HD_add : ∀ (l : OR) (D : Nat → Bool) (i k : Nat) (h : HpF) (o : Oper) (ρ : Rec), l[k]? = some (o, ρ) → D (i + k) = false → (∀ j o' ρ', k < j → l[j]? = some (o', ρ') → D (i + j) = true → ∀ x, x ∈ ρ.ups.map (·.1) → x ∉ ρ'.ups.map (·.1)) →
  HD l (fun j => D j || j == i + k) i h = updF ρ.ups (HD l D i h)
 | [], _, _, _, _, _, _, h, _, _ => by simp at h
 | (o1, ρ1) :: l, D, i, 0, h0, o, ρ, h, hD, hj => by
  simp only [List.getElem?_cons_zero, Option.some.injEq, Prod.mk.injEq] at h
  obtain ⟨rfl, rfl⟩ := h
  simp only [Nat.add_zero] at hD
  funext x
  simp only [HD, Nat.add_zero, beq_self_eq_true, Bool.or_true, if_true, hD, Bool.false_eq_true, if_false]
  by_cases hd : x ∈ ρ1.ups.map (·.1)
  · have e1 : HD l (fun j => D j || j == i) (i + 1) (updF ρ1.ups h0) x = updF ρ1.ups h0 x := by
      have gen : ∀ (l' : OR) (i' : Nat) (S : HpF), (∀ j o' ρ', l'[j]? = some (o', ρ') → (fun j => D j || j == i) (i' + j) = true → x ∉ ρ'.ups.map (·.1)) → HD l' (fun j => D j || j == i) i' S x = S x := by
       intro l'
       induction l' with
       | nil => intros; rfl
       | cons p l' ih =>
        obtain ⟨o2, ρ2⟩ := p
        intro i' S hh
        simp only [HD]
        rw [ih (i' + 1) _ (fun j o' ρ' hl hD' => hh (j + 1) o' ρ' (by simpa using hl) (by rwa [show i' + (j + 1) = i' + 1 + j by omega]))]
        split
        · rename_i hDi
          have := hh 0 o2 ρ2 rfl (by simpa using hDi)
          exact updF_not this
        · rfl
      refine gen l (i + 1) _ (fun j o' ρ' hl hD' => ?_)
      refine hj (j + 1) o' ρ' (by omega) (by simpa using hl) ?_ x hd
      rw [show i + (j + 1) = i + 1 + j by omega]
      simp only [Bool.or_eq_true] at hD'
      rcases hD' with h1 | h1
      · exact h1
      · simp at h1; omega
    rw [e1]
    exact updF_key hd
  · rw [updF_not hd]
    refine HD_congr l _ _ (i + 1) _ _ x (updF_not hd) (fun j o' ρ' hl hd' => ?_)
    have : (i + 1 + j == i) = false := by simp; omega
    simp [this]
 | (o1, ρ1) :: l, D, i, k + 1, h0, o, ρ, h, hD, hj => by
  simp only [HD]
  have hne : (i == i + (k + 1)) = false := by simp
  simp only [hne, Bool.or_false]
  rw [show (fun j => D j || j == i + (k + 1)) = (fun j => D j || j == (i + 1) + k) by funext j; rw [show i + (k + 1) = i + 1 + k by omega]]
  exact HD_add l D (i + 1) k _ o ρ (by simpa using h) (by rwa [show i + 1 + k = i + (k + 1) by omega]) (fun j o' ρ' hkj hl hD' => hj (j + 1) o' ρ' (by omega) (by simpa using hl) (by rwa [show i + (j + 1) = i + 1 + j by omega]))
theorem TD_shift : ∀ (l : OR) (D : Nat → Bool) (i : Nat) (T : Nat → SV), TD l D (i + 1) T = TD l (fun j => D (j + 1)) i T
 | [], _, _, _ => rfl
 | (o, ρ) :: l, D, i, T => by simp only [TD]; exact TD_shift l D (i + 1) _
theorem HD_shift : ∀ (l : OR) (D : Nat → Bool) (i : Nat) (h : HpF), HD l D (i + 1) h = HD l (fun j => D (j + 1)) i h
 | [], _, _, _ => rfl
 | (o, ρ) :: l, D, i, h => by simp only [HD]; exact HD_shift l D (i + 1) _
theorem TD_none : ∀ (l : OR) (D : Nat → Bool) (i : Nat) (T : Nat → SV), (∀ j, i ≤ j → D j = false) → TD l D i T = T
 | [], _, _, _, _ => rfl
 | (o, ρ) :: l, D, i, T, h => by
  simp only [TD, h i (Nat.le_refl _), Bool.false_eq_true, if_false]
  exact TD_none l D (i + 1) T (fun j hj => h j (by omega))
theorem HD_none : ∀ (l : OR) (D : Nat → Bool) (i : Nat) (h : HpF), (∀ j, i ≤ j → D j = false) → HD l D i h = h
 | [], _, _, _, _ => rfl
 | (o, ρ) :: l, D, i, h0, h => by
  simp only [HD, h i (Nat.le_refl _), Bool.false_eq_true, if_false]
  exact HD_none l D (i + 1) h0 (fun j hj => h j (by omega))
def upTo (i : Nat) : Nat → Bool := fun j => Nat.blt j i
theorem upTo_iff {i j : Nat} : upTo i j = true ↔ j < i := by simp [upTo, Nat.blt_eq]
theorem upTo_false {i j : Nat} : upTo i j = false ↔ ¬ j < i := by
 rw [← upTo_iff]; simp
theorem upTo_succ (i : Nat) : (fun j => upTo (i + 1) (j + 1)) = upTo i := by
 funext j
 have h1 := @upTo_iff (i + 1) (j + 1)
 have h2 := @upTo_iff i j
 cases h3 : upTo (i + 1) (j + 1) <;> cases h4 : upTo i j <;> first | rfl | (rw [h3] at h1; rw [h4] at h2; simp at h1 h2; omega)
structure Fact (P : Program) (κ : Nat → Option CSumm) (all : List Oper) (n : Nat) (l : OR) (T : Nat → SV) (h : HpF) (nx nx' : Nat) (i : Nat) (o : Oper) (ρ : Rec) : Prop where
 dst : dstN n o.dst
 want : wantedT all n (TD l (upTo i) 0 T) o = some ρ.ex
 run : ρ.ex = true → mrun (HD l (upTo i) 0 h) (opM P κ o (evT (TD l (upTo i) 0 T)) ρ.nx0) = some (ρ.r, ρ.ups, ρ.nx1, ρ.rs)
 idle : ρ.ex = false → ρ.r = .tup [] ∧ ρ.ups = [] ∧ ρ.nx1 = ρ.nx0 ∧ ρ.rs = []
 lo : nx ≤ ρ.nx0
 mid : ρ.nx0 ≤ ρ.nx1
 hi : ρ.nx1 ≤ nx'
 dom : ∀ x c, HD l (upTo i) 0 h x = some c → x < ρ.nx0
theorem txt_facts {κ : Nat → Option CSumm} {all : List Oper} {n : Nat} {os : List Oper} {T T' : Nat → SV} {h h' : HpF} {nx nx' : Nat} {recs : List Rec} (ht : Txt P κ all n os T h nx recs T' h' nx') :
  (∀ x c, h x = some c → x < nx) → recs.length = os.length ∧ nx ≤ nx' ∧ T' = TD (os.zip recs) (fun _ => true) 0 T ∧ h' = HD (os.zip recs) (fun _ => true) 0 h ∧
   (∀ (i : Nat) (o : Oper) (ρ : Rec), (os.zip recs)[i]? = some (o, ρ) → Fact P κ all n (os.zip recs) T h nx nx' i o ρ) ∧
   (∀ (i j : Nat) (o : Oper) (ρ : Rec) (o' : Oper) (ρ' : Rec), i < j → (os.zip recs)[i]? = some (o, ρ) → (os.zip recs)[j]? = some (o', ρ') → ρ.nx1 ≤ ρ'.nx0) := by
 induction ht with
 | nil => intro _; exact ⟨rfl, Nat.le_refl _, rfl, rfl, fun i o ρ h => by simp at h, fun i j o ρ o' ρ' _ h => by simp at h⟩
 | run hd hw hm _ ih =>
  rename_i o os T T' h h' nx nx1 nx' r ups rs recs _
  intro hdom
  obtain ⟨hle, hkeys⟩ := opM_wf hm
  have hdom1 : ∀ x c, updF ups h x = some c → x < nx1 := by
   intro x c hx
   rcases updF_mem hx with h1 | ⟨_, h1⟩
   · rcases hkeys _ h1 with h2 | h2
     · obtain ⟨c', hc'⟩ := mrun_reads _ _ hm x h2
       have := hdom x c' hc'; omega
     · exact h2.2
   · have := hdom x c h1; omega
  obtain ⟨i1, i2, i3, i4, i5, i6⟩ := ih hdom1
  refine ⟨by simp [i1], by omega, ?_, ?_, ?_, ?_⟩
  · simp only [List.zip_cons_cons, TD, if_true]; rw [TD_shift]; exact i3
  · simp only [List.zip_cons_cons, HD, if_true]; rw [HD_shift]; exact i4
  · intro i o' ρ' hi
    cases i with
    | zero =>
     simp only [List.zip_cons_cons, List.getElem?_cons_zero, Option.some.injEq, Prod.mk.injEq] at hi
     obtain ⟨rfl, rfl⟩ := hi
     have hz : ∀ j, 0 ≤ j → upTo 0 j = false := fun j _ => upTo_false.2 (by omega)
     refine ⟨hd, ?_, fun _ => ?_, (fun h => by cases h), Nat.le_refl _, hle, i2, ?_⟩
     · rw [TD_none _ _ _ _ hz]; exact hw
     · rw [TD_none _ _ _ _ hz, HD_none _ _ _ _ hz]; exact hm
     · rw [HD_none _ _ _ _ hz]; exact hdom
    | succ i =>
     have f := i5 i o' ρ' (by simpa using hi)
     have e1 : TD (((o, (⟨true, r, ups, nx, nx1, rs⟩ : Rec)) :: os.zip recs)) (upTo (i + 1)) 0 T = TD (os.zip recs) (upTo i) 0 (updT T o.dst r) := by
      simp only [TD, upTo_iff.2 (Nat.succ_pos i), if_true]
      rw [TD_shift, upTo_succ]
     have e2 : HD (((o, (⟨true, r, ups, nx, nx1, rs⟩ : Rec)) :: os.zip recs)) (upTo (i + 1)) 0 h = HD (os.zip recs) (upTo i) 0 (updF ups h) := by
      simp only [HD, upTo_iff.2 (Nat.succ_pos i), if_true]
      rw [HD_shift, upTo_succ]
     simp only [List.zip_cons_cons]
     refine ⟨f.dst, ?_, fun he => ?_, f.idle, by have := f.lo; omega, f.mid, f.hi, ?_⟩
     · rw [e1]; exact f.want
     · rw [e1, e2]; exact f.run he
     · rw [e2]; exact f.dom
  · intro i j o1 ρ1 o2 ρ2 hij hi hj
    cases j with
    | zero => omega
    | succ j =>
     cases i with
     | zero =>
      simp only [List.zip_cons_cons, List.getElem?_cons_zero, Option.some.injEq, Prod.mk.injEq] at hi
      obtain ⟨rfl, rfl⟩ := hi
      exact (i5 j o2 ρ2 (by simpa using hj)).lo
     | succ i => exact i6 i j o1 ρ1 o2 ρ2 (by omega) (by simpa using hi) (by simpa using hj)
 | skip hd hw _ ih =>
  rename_i o os T T' h h' nx nx' recs _
  intro hdom
  obtain ⟨i1, i2, i3, i4, i5, i6⟩ := ih hdom
  refine ⟨by simp [i1], by omega, ?_, ?_, ?_, ?_⟩
  · simp only [List.zip_cons_cons, TD, if_true]; rw [TD_shift]; exact i3
  · simp only [List.zip_cons_cons, HD, if_true, updF]; rw [HD_shift]; exact i4
  · intro i o' ρ' hi
    cases i with
    | zero =>
     simp only [List.zip_cons_cons, List.getElem?_cons_zero, Option.some.injEq, Prod.mk.injEq] at hi
     obtain ⟨rfl, rfl⟩ := hi
     have hz : ∀ j, 0 ≤ j → upTo 0 j = false := fun j _ => upTo_false.2 (by omega)
     refine ⟨hd, ?_, (fun h => by cases h), fun _ => ⟨rfl, rfl, rfl, rfl⟩, Nat.le_refl _, Nat.le_refl _, i2, ?_⟩
     · rw [TD_none _ _ _ _ hz]; exact hw
     · rw [HD_none _ _ _ _ hz]; exact hdom
    | succ i =>
     have f := i5 i o' ρ' (by simpa using hi)
     have e1 : TD (((o, (⟨false, .tup [], [], nx, nx, []⟩ : Rec)) :: os.zip recs)) (upTo (i + 1)) 0 T = TD (os.zip recs) (upTo i) 0 (updT T o.dst (.tup [])) := by
      simp only [TD, upTo_iff.2 (Nat.succ_pos i), if_true]
      rw [TD_shift, upTo_succ]
     have e2 : HD (((o, (⟨false, .tup [], [], nx, nx, []⟩ : Rec)) :: os.zip recs)) (upTo (i + 1)) 0 h = HD (os.zip recs) (upTo i) 0 h := by
      simp only [HD, upTo_iff.2 (Nat.succ_pos i), if_true, updF]
      rw [HD_shift, upTo_succ]
     simp only [List.zip_cons_cons]
     refine ⟨f.dst, ?_, fun he => ?_, f.idle, f.lo, f.mid, f.hi, ?_⟩
     · rw [e1]; exact f.want
     · rw [e1, e2]; exact f.run he
     · rw [e2]; exact f.dom
  · intro i j o1 ρ1 o2 ρ2 hij hi hj
    cases j with
    | zero => omega
    | succ j =>
     cases i with
     | zero =>
      simp only [List.zip_cons_cons, List.getElem?_cons_zero, Option.some.injEq, Prod.mk.injEq] at hi
      obtain ⟨rfl, rfl⟩ := hi
      exact (i5 j o2 ρ2 (by simpa using hj)).lo
     | succ i => exact i6 i j o1 ρ1 o2 ρ2 (by omega) (by simpa using hi) (by simpa using hj)
end Go.Am
/- The abstract machine: a region that draws its order. -/
namespace Go.Am
variable {P : Program} {ω : Nat → Value}
/- What stands ahead of what. -/
theorem bef1_bit {bs : List Nat} {o : Oper} {k : Nat} (h : (bef1 bs o).testBit k = true) : ∃ e ∈ o.after.toList, Region.binds .any e = true ∧ (k = e.on ∨ (bs.getD e.on 0).testBit k = true) := by
 unfold bef1 at h
 generalize o.after.toList = l at h
 have gen : ∀ (l : List Edge) (s : Nat), (l.foldl (fun s e => bif Region.binds .any e then s ||| 2 ^ e.on ||| bs.getD e.on 0 else s) s).testBit k = true → s.testBit k = true ∨ ∃ e ∈ l, Region.binds .any e = true ∧ (k = e.on ∨ (bs.getD e.on 0).testBit k = true) := by
  intro l
  induction l with
  | nil => intro s h; exact .inl h
  | cons e l ih =>
   intro s h
   rcases ih _ h with h1 | ⟨e', he', h1⟩
   · simp only [] at h1
     cases hb : Region.binds .any e with
     | false => rw [hb] at h1; exact .inl h1
     | true =>
      rw [hb] at h1
      simp only [cond_true, Nat.testBit_or, Bool.or_eq_true] at h1
      rcases h1 with (h1 | h1) | h1
      · exact .inl h1
      · rw [Nat.testBit_two_pow] at h1
        exact .inr ⟨e, by simp, hb, .inl (by have := of_decide_eq_true h1; omega)⟩
      · exact .inr ⟨e, by simp, hb, .inr h1⟩
   · exact .inr ⟨e', by simp [he'], h1⟩
 rcases gen l 0 h with h1 | h1
 · simp at h1
 · exact h1
theorem befAll_pre : ∀ (os : List Oper) (bs : List Nat) (i : Nat), i < bs.length → (befAll os bs)[i]? = bs[i]?
 | [], _, _, _ => rfl
 | o :: os, bs, i, h => by
  simp only [befAll]
  rw [befAll_pre os _ i (by simp; omega), List.getElem?_append_left h]
theorem befAll_at : ∀ (os : List Oper) (bs : List Nat) (i : Nat) (o : Oper), os[i]? = some o → (befAll os bs)[bs.length + i]? = some (bef1 ((befAll os bs).take (bs.length + i)) o)
 | [], _, _, _, h => by simp at h
 | o1 :: os, bs, 0, o, h => by
  simp only [List.getElem?_cons_zero, Option.some.injEq] at h
  subst h
  simp only [befAll, Nat.add_zero]
  rw [befAll_pre os _ _ (by simp)]
  have e : (befAll os (bs ++ [bef1 bs o1])).take bs.length = bs := by
   apply List.ext_getElem?
   intro j
   rw [List.getElem?_take]
   split
   · rename_i hj
     rw [befAll_pre os _ j (by simp; omega), List.getElem?_append_left hj]
   · rename_i hj
     rw [List.getElem?_eq_none (by omega)]
  rw [e]
  simp
 | o1 :: os, bs, i + 1, o, h => by
  simp only [befAll]
  have := befAll_at os (bs ++ [bef1 bs o1]) i o (by simpa using h)
  simp only [List.length_append, List.length_cons, List.length_nil] at this
  rw [show bs.length + (i + 1) = bs.length + (0 + 1) + i by omega]
  exact this
structure Static (all : List Oper) (bs : List Nat) : Prop where
 bit : ∀ (i : Nat) (o : Oper), all[i]? = some o → ∀ k, (bs.getD i 0).testBit k = true → ∃ e ∈ o.after.toList, Region.binds .any e = true ∧ (k = e.on ∨ (bs.getD e.on 0).testBit k = true)
 back : ∀ (i : Nat) (o : Oper), all[i]? = some o → ∀ e ∈ o.after.toList, Region.binds .any e = true → e.on < i
 pair : ∀ (i j : Nat) (o o' : Oper), i < j → all[i]? = some o → all[j]? = some o' → (bs.getD j 0).testBit i = true ∨ apartT all o o' = true
 guard : ∀ (i : Nat) (o : Oper) (g : Nat) (b : Bool), all[i]? = some o → o.guard = some (g, b) → (bs.getD i 0).testBit g = true
theorem staticRow_spec {all : List Oper} {b : Nat} {o : Oper} : ∀ (l : List Oper) (i : Nat), staticRow all b o l i = true → ∀ (j : Nat) (p : Oper), l[j]? = some p → b.testBit (i + j) = true ∨ apartT all p o = true
 | [], _, _, _, _, h => by simp at h
 | q :: l, i, hs, j, p, h => by
  simp only [staticRow, Bool.and_eq_true, Bool.or_eq_true] at hs
  cases j with
  | zero =>
   simp only [List.getElem?_cons_zero, Option.some.injEq] at h
   subst h
   simpa using hs.1
  | succ j =>
   have := staticRow_spec l (i + 1) hs.2 j p (by simpa using h)
   rwa [show i + 1 + j = i + (j + 1) by omega] at this
theorem staticOk_spec {all : List Oper} {bs : List Nat} : ∀ (os pre : List Oper) (j : Nat), staticOk all bs pre os j = true → pre.length = j →
  (∀ (k : Nat) (o : Oper), os[k]? = some o → (∀ e ∈ o.after.toList, Region.binds .any e = true → e.on < j + k) ∧ (∀ g b, o.guard = some (g, b) → (bs.getD (j + k) 0).testBit g = true) ∧
   (∀ (i : Nat) (p : Oper), i < j + k → (pre ++ os)[i]? = some p → (bs.getD (j + k) 0).testBit i = true ∨ apartT all p o = true))
 | [], _, _, _, _, k, o, h => by simp at h
 | o1 :: os, pre, j, hs, hl, k, o, h => by
  simp only [staticOk, Bool.and_eq_true] at hs
  obtain ⟨⟨⟨h1, h2⟩, h3⟩, h4⟩ := hs
  cases k with
  | zero =>
   simp only [List.getElem?_cons_zero, Option.some.injEq] at h
   subst h
   refine ⟨fun e he hb => ?_, fun g b hg => ?_, fun i p hi hp => ?_⟩
   · have := List.all_eq_true.1 h2 e he
     simp only [hb, Bool.not_true, Bool.false_or] at this
     rw [Nat.blt_eq] at this
     simpa using this
   · rw [hg] at h3; simpa using h3
   · have : pre[i]? = some p := by
       rw [List.getElem?_append_left (by omega)] at hp
       exact hp
     have := staticRow_spec pre 0 h1 i p this
     simpa using this
  | succ k =>
   have := staticOk_spec os (pre ++ [o1]) (j + 1) h4 (by simp [hl]) k o (by simpa using h)
   rw [show j + 1 + k = j + (k + 1) by omega] at this
   simpa using this
theorem static_of {all : List Oper} (h : staticOk all (befAll all []) [] all 0 = true) : Static all (befAll all []) := by
 have hs := staticOk_spec all [] 0 h rfl
 have hback : ∀ (i : Nat) (o : Oper), all[i]? = some o → ∀ e ∈ o.after.toList, Region.binds .any e = true → e.on < i := fun i o ho e he hb => by
  have := (hs i o ho).1 e he hb
  omega
 refine ⟨?_, hback, ?_, ?_⟩
 · intro i o ho k hk
   have hat := befAll_at all [] i o ho
   simp only [List.length_nil, Nat.zero_add] at hat
   have e1 : (befAll all []).getD i 0 = bef1 ((befAll all []).take i) o := by simp [List.getD_eq_getElem?_getD, hat]
   rw [e1] at hk
   obtain ⟨e, he, hb, h1⟩ := bef1_bit hk
   refine ⟨e, he, hb, ?_⟩
   rcases h1 with h1 | h1
   · exact .inl h1
   · right
     have hlt := hback i o ho e he hb
     rw [← h1]
     congr 1
     simp [List.getD_eq_getElem?_getD, hlt]
 · intro i j o o' hij ho ho'
   have := (hs j o' ho').2.2 i o (by omega) (by simpa using ho)
   simpa using this
 · intro i o g b ho hg
   have := (hs i o ho).2.1 g b hg
   simpa using this
theorem Static.lt {all : List Oper} {bs : List Nat} (s : Static all bs) : ∀ (i : Nat) (o : Oper), all[i]? = some o → ∀ k, (bs.getD i 0).testBit k = true → k < i := by
 intro i
 induction i using Nat.strongRecOn with
 | _ i ih =>
  intro o ho k hk
  obtain ⟨e, he, hb, h1⟩ := s.bit i o ho k hk
  have hlt := s.back i o ho e he hb
  rcases h1 with rfl | h1
  · exact hlt
  · have hilt : i < all.length := (List.getElem?_eq_some_iff.1 ho).1
    obtain ⟨o', ho'⟩ : ∃ o', all[e.on]? = some o' := ⟨all[e.on]'(by omega), by simp⟩
    have := ih e.on hlt o' ho' k h1
    omega
/- The feet. -/
def feet : Nat → List Rec → List Foot → List Foot
 | _, [], acc => acc
 | i, ρ :: l, acc => feet (i + 1) l (if ρ.ex then ⟨i, ρ.rs, ρ.ups.map (·.1)⟩ :: acc else acc)
theorem feet_spec {bs : List Nat} : ∀ (l : List Rec) (i : Nat) (acc : List Foot), footsOk bs (feet i l acc) = true → footsOk bs acc = true ∧
  (∀ (j : Nat) (ρ : Rec), l[j]? = some ρ → ρ.ex = true → ∀ g ∈ acc, (bs.getD (i + j) 0).testBit g.i = true ∨ apartF ⟨i + j, ρ.rs, ρ.ups.map (·.1)⟩ g = true) ∧
  (∀ (j k : Nat) (ρ σ : Rec), j < k → l[j]? = some ρ → l[k]? = some σ → ρ.ex = true → σ.ex = true → (bs.getD (i + k) 0).testBit (i + j) = true ∨ apartF ⟨i + k, σ.rs, σ.ups.map (·.1)⟩ ⟨i + j, ρ.rs, ρ.ups.map (·.1)⟩ = true)
 | [], i, acc, h => ⟨h, fun j ρ hj => by simp at hj, fun j k ρ σ _ hj => by simp at hj⟩
 | ρ0 :: l, i, acc, h => by
  simp only [feet] at h
  obtain ⟨h1, h2, h3⟩ := feet_spec l (i + 1) _ h
  have e : ∀ j, i + 1 + j = i + (j + 1) := fun j => by omega
  by_cases hx : ρ0.ex = true
  · simp only [hx, if_true] at h1 h2
    simp only [footsOk, Bool.and_eq_true] at h1
    refine ⟨h1.2, ?_, ?_⟩
    · intro j ρ hj hex g hg
      cases j with
      | zero =>
       simp only [List.getElem?_cons_zero, Option.some.injEq] at hj
       subst hj
       have := List.all_eq_true.1 h1.1 g hg
       simpa using this
      | succ j =>
       have := h2 j ρ (by simpa using hj) hex g (by simp [hg])
       rwa [e] at this
    · intro j k ρ σ hjk hj hk hex hex'
      cases k with
      | zero => omega
      | succ k =>
       cases j with
       | zero =>
        simp only [List.getElem?_cons_zero, Option.some.injEq] at hj
        subst hj
        have := h2 k σ (by simpa using hk) hex' ⟨i, ρ0.rs, ρ0.ups.map (·.1)⟩ (by simp)
        rwa [e] at this
       | succ j =>
        have := h3 j k ρ σ (by omega) (by simpa using hj) (by simpa using hk) hex hex'
        rwa [e, e] at this
  · simp only [hx, Bool.false_eq_true, if_false] at h1 h2
    refine ⟨h1, ?_, ?_⟩
    · intro j ρ hj hex g hg
      cases j with
      | zero =>
       simp only [List.getElem?_cons_zero, Option.some.injEq] at hj
       subst hj
       exact absurd hex hx
      | succ j =>
       have := h2 j ρ (by simpa using hj) hex g hg
       rwa [e] at this
    · intro j k ρ σ hjk hj hk hex hex'
      cases k with
      | zero => omega
      | succ k =>
       cases j with
       | zero =>
        simp only [List.getElem?_cons_zero, Option.some.injEq] at hj
        subst hj
        exact absurd hex hx
       | succ j =>
        have := h3 j k ρ σ (by omega) (by simpa using hj) (by simpa using hk) hex hex'
        rwa [e, e] at this
theorem overlap_false {a b : List Nat} (h : overlap a b = false) : ∀ x ∈ a, x ∉ b := by
 induction a with
 | nil => intro x hx; cases hx
 | cons y a ih =>
  simp only [overlap, Bool.or_eq_false_iff] at h
  intro x hx hb
  rcases List.mem_cons.1 hx with rfl | hx
  · rw [(memN_iff x b).2 hb] at h; exact absurd h.1 (by simp)
  · exact ih h.2 x hx hb
theorem apartF_spec {a b : Foot} (h : apartF a b = true) : (∀ x ∈ a.writes, x ∉ b.writes) ∧ (∀ x ∈ a.writes, x ∉ b.reads) ∧ (∀ x ∈ a.reads, x ∉ b.writes) := by
 simp only [apartF, Bool.and_eq_true, Bool.not_eq_true'] at h
 exact ⟨overlap_false h.1.1, overlap_false h.1.2, overlap_false h.2⟩
def looks (all : List Oper) (o : Oper) : List Nat := (match o.guard with
  | some (g, _) => match nth? all g with
   | some og => match og.dst with
    | some d => [d]
    | none => []
   | none => []
  | none => []) ++ tmpsOf o.op.operands.toList
theorem apartT_spec {all : List Oper} {x y : Oper} (h : apartT all x y = true) : (∀ d, x.dst = some d → d ∉ looks all y ∧ y.dst ≠ some d) ∧ (∀ d, y.dst = some d → d ∉ looks all x) := by
 simp only [apartT, Bool.and_eq_true] at h
 constructor
 · intro d hd
   have h1 := h.1
   rw [hd] at h1
   simp only [Bool.and_eq_true, Bool.not_eq_true'] at h1
   refine ⟨fun hm => ?_, fun hy => ?_⟩
   · have : memN d (looks all y) = true := (memN_iff _ _).2 hm
     rw [show memN d (looks all y) = false from h1.1] at this
     cases this
   · rw [hy] at h1
     have := h1.2
     simp only [Bool.not_eq_true'] at this
     rw [nb_t rfl] at this
     cases this
 · intro d hd hm
   have h2 := h.2
   rw [hd] at h2
   simp only [Bool.not_eq_true'] at h2
   have : memN d (looks all x) = true := (memN_iff _ _).2 hm
   rw [show memN d (looks all x) = false from h2] at this
   cases this
theorem tmpsOf_mem : ∀ {l : List Operand} {t : Nat}, .tmp t ∈ l → t ∈ tmpsOf l
 | [], _, h => by cases h
 | x :: l, t, h => by
  rcases List.mem_cons.1 h with rfl | h
  · simp [tmpsOf]
  · have ih := tmpsOf_mem h
    cases x <;> simp only [tmpsOf] <;> first | exact List.mem_cons.2 (.inr ih) | exact ih
def cnt (D : Nat → Bool) : Nat → Nat
 | 0 => 0
 | n + 1 => cnt D n + if D n then 0 else 1
theorem cnt_zero {D : Nat → Bool} : ∀ {n : Nat}, cnt D n = 0 → ∀ i, i < n → D i = true
 | 0, _, _, h => by omega
 | n + 1, h, i, hi => by
  simp only [cnt] at h
  rcases Nat.lt_succ_iff_lt_or_eq.1 hi with h1 | rfl
  · exact cnt_zero (by omega) i h1
  · cases hd : D i with
    | true => rfl
    | false => simp [hd] at h
theorem cnt_le {D D' : Nat → Bool} : ∀ {n : Nat}, (∀ i, i < n → D i = true → D' i = true) → cnt D' n ≤ cnt D n
 | 0, _ => Nat.le_refl _
 | n + 1, h => by
  have ih := cnt_le (n := n) (fun i hi => h i (by omega))
  simp only [cnt]
  cases hd : D n with
  | true => simp [h n (by omega) hd]; exact ih
  | false => cases D' n <;> simp <;> omega
theorem cnt_lt {D D' : Nat → Bool} : ∀ {n i : Nat}, (∀ j, j < n → D j = true → D' j = true) → i < n → D i = false → D' i = true → cnt D' n < cnt D n
 | 0, _, _, h, _, _ => by omega
 | n + 1, i, h, hi, h1, h2 => by
  simp only [cnt]
  rcases Nat.lt_succ_iff_lt_or_eq.1 hi with h3 | rfl
  · have := cnt_lt (n := n) (fun j hj => h j (by omega)) h3 h1 h2
    cases hd : D n with
    | true => simp [h n (by omega) hd]; exact this
    | false => cases D' n <;> simp <;> omega
  · have := cnt_le (n := i) (fun j hj => h j (by omega))
    simp [h1, h2]; omega
theorem ready_iff {ops : Array Oper} {listed : Array Bool} {i : Nat} : i ∈ Region.ready .any ops listed ↔ i < ops.size ∧ listed.getD i true = false ∧ ∃ o, ops[i]? = some o ∧ ∀ e ∈ o.after, Region.binds .any e = true → listed.getD e.on false = true := by
 unfold Region.ready
 simp only [List.mem_filter, List.mem_range, Bool.and_eq_true, Bool.not_eq_true']
 constructor
 · rintro ⟨h1, h2, h3⟩
   refine ⟨h1, h2, ops[i], by simp [h1], ?_⟩
   have e : ops[i]? = some ops[i] := by simp [h1]
   rw [e] at h3
   simp only [Option.map_some, Option.getD_some, Array.all_eq_true'] at h3
   intro x hx hb
   have := h3 x hx
   simpa [hb] using this
 · rintro ⟨h1, h2, o, ho, h3⟩
   refine ⟨h1, h2, ?_⟩
   rw [ho]
   simp only [Option.map_some, Option.getD_some, Array.all_eq_true']
   intro x hx
   cases hb : Region.binds .any x with
   | false => rfl
   | true => simpa using h3 x hx hb
theorem any_sound {κ : Nat → Option CSumm} (hκ : KOk P κ) {all : List Oper} {n : Nat} {T0 T' : Nat → SV} {h0 h' : HpF} {nxs nx0 nx' : Nat} {recs : List Rec} {hs : HpF} {ws : World} {Ims : Nat → Prop} {θs : Th} {ro : Option Nat} {ds : List Deferred} {Q : Exit → Act → World → Prop}
  (ht : Txt P κ all n all T0 h0 nx0 recs T' h' nx') (hdom0 : ∀ x c, h0 x = some c → x < nx0) (hnx : nxs ≤ nx0) {bs : List Nat} (st : Static all bs) (hf : footsOk bs (feet 0 recs []) = true)
  (hQ : ∀ a' w' Im' θ', a'.defers = ds → SimF P ω n T' h' a' w' Im' θ' → Fr nx' θ' h' → nxs ≤ nx' → Ext (fun x => nxs ≤ x) hs ws Ims θs h' w' Im' θ' → Q .normal a' w') :
  ∀ (fuel : Nat) (D : Nat → Bool) (listed : Array Bool) (a : Act) (w : World) (Im : Nat → Prop) (θ : Th), cnt D all.length ≤ fuel → listed.size = all.length → (∀ i, i < all.length → listed[i]? = some (D i)) → (∀ i, all.length ≤ i → D i = false) →
   (∀ i, D i = true → ∀ k, (bs.getD i 0).testBit k = true → D k = true) → a.defers = ds → SimF P ω n (TD (all.zip recs) D 0 T0) (HD (all.zip recs) D 0 h0) a w Im θ →
   (∀ x, (θ x ≠ none ∨ HD (all.zip recs) D 0 h0 x ≠ none) → x < nx0 ∨ ∃ (j : Nat) (o : Oper) (ρ : Rec), D j = true ∧ (all.zip recs)[j]? = some (o, ρ) ∧ ρ.nx0 ≤ x ∧ x < ρ.nx1) →
   Ext (fun x => nxs ≤ x) hs ws Ims θs (HD (all.zip recs) D 0 h0) w Im θ → wpAnyIn (FR ro) 0 P .any all.toArray Q fuel listed a w := by
 obtain ⟨hlen, hnn, rfl, rfl, hfact, hord⟩ := txt_facts ht hdom0
 obtain ⟨-, -, hfeet⟩ := feet_spec recs 0 [] hf
 have hzip : ∀ i, i < all.length → ∃ o ρ, (all.zip recs)[i]? = some (o, ρ) ∧ all[i]? = some o ∧ recs[i]? = some ρ := by
  intro i hi
  refine ⟨all[i], recs[i], ?_, by simp [hi], by simp [hlen, hi]⟩
  simp [hi, hlen]
 have hzipr : ∀ (i : Nat) (o : Oper) (ρ : Rec), (all.zip recs)[i]? = some (o, ρ) → all[i]? = some o ∧ recs[i]? = some ρ ∧ i < all.length := by
  intro i o ρ h
  rw [List.getElem?_zip_eq_some] at h
  exact ⟨h.1, h.2, (List.getElem?_eq_some_iff.1 h.1).1⟩
 -- the end
 have hend : ∀ (D : Nat → Bool) (a : Act) (w : World) (Im : Nat → Prop) (θ : Th), (∀ i, i < all.length → D i = true) → a.defers = ds → SimF P ω n (TD (all.zip recs) D 0 T0) (HD (all.zip recs) D 0 h0) a w Im θ →
   (∀ x, (θ x ≠ none ∨ HD (all.zip recs) D 0 h0 x ≠ none) → x < nx0 ∨ ∃ (j : Nat) (o : Oper) (ρ : Rec), D j = true ∧ (all.zip recs)[j]? = some (o, ρ) ∧ ρ.nx0 ≤ x ∧ x < ρ.nx1) →
   Ext (fun x => nxs ≤ x) hs ws Ims θs (HD (all.zip recs) D 0 h0) w Im θ → Q .normal a w := by
  intro D a w Im θ hall hdf hS hfr hE
  have eT : TD (all.zip recs) D 0 T0 = TD (all.zip recs) (fun _ => true) 0 T0 := by
   funext t
   refine TD_congr _ _ _ 0 _ _ t rfl (fun j o ρ hj _ => ?_)
   simp only [Nat.zero_add]
   exact hall j (hzipr j o ρ hj).2.2
  have eH : HD (all.zip recs) D 0 h0 = HD (all.zip recs) (fun _ => true) 0 h0 := by
   funext x
   refine HD_congr _ _ _ 0 _ _ x rfl (fun j o ρ hj _ => ?_)
   simp only [Nat.zero_add]
   exact hall j (hzipr j o ρ hj).2.2
  rw [eT, eH] at hS
  rw [eH] at hE hfr
  refine hQ a w Im θ hdf hS (fun x hx => ?_) (by omega) hE
  constructor
  · cases hθ : θ x with
    | none => rfl
    | some p =>
     rcases hfr x (.inl (by simp [hθ])) with h1 | ⟨j, o, ρ, -, hj, h1, h2⟩
     · omega
     · have := (hfact j o ρ hj).hi; omega
  · cases hh : HD (all.zip recs) (fun _ => true) 0 h0 x with
    | none => rfl
    | some p =>
     rcases hfr x (.inr (by simp [hh])) with h1 | ⟨j, o, ρ, -, hj, h1, h2⟩
     · omega
     · have := (hfact j o ρ hj).hi; omega
 -- where nothing is ready all is done
 have hdone : ∀ (D : Nat → Bool) (listed : Array Bool), listed.size = all.length → (∀ i, i < all.length → listed[i]? = some (D i)) → Region.ready .any all.toArray listed = [] → ∀ i, i < all.length → D i = true := by
  intro D listed hsz hl hr i
  induction i using Nat.strongRecOn with
  | _ i ih =>
   intro hi
   cases hd : D i with
   | true => rfl
   | false =>
    have : i ∈ Region.ready .any all.toArray listed := by
     rw [ready_iff]
     obtain ⟨o, ρ, -, ho, -⟩ := hzip i hi
     refine ⟨by simpa using hi, by simp [Array.getD_eq_getD_getElem?, hl i hi, hd], o, by simpa using ho, fun e he hb => ?_⟩
     have hlt := st.back i o ho e (by simpa using he) hb
     simp [Array.getD_eq_getD_getElem?, hl e.on (by omega), ih e.on hlt (by omega)]
    rw [hr] at this
    cases this
 intro fuel
 induction fuel with
 | zero =>
  intro D listed a w Im θ hc hsz hl hout hcl hdf hS hfr hE
  have hall := cnt_zero (Nat.le_zero.1 hc)
  refine ⟨?_, hend D a w Im θ hall hdf hS hfr hE⟩
  cases hr : Region.ready .any all.toArray listed with
  | nil => rfl
  | cons i l =>
   have hm : i ∈ Region.ready .any all.toArray listed := by rw [hr]; simp
   rw [ready_iff] at hm
   obtain ⟨h1, h2, -⟩ := hm
   have h1' : i < all.length := by simpa using h1
   simp [Array.getD_eq_getD_getElem?, hl i h1', hall i h1'] at h2
 | succ fuel ih =>
  intro D listed a w Im θ hc hsz hl hout hcl hdf hS hfr hE
  refine ⟨fun hr => hend D a w Im θ (hdone D listed hsz hl hr) hdf hS hfr hE, fun i hi => ?_⟩
  rw [ready_iff] at hi
  obtain ⟨hi1, hi2, o, ho, hedges⟩ := hi
  have hin : i < all.length := by simpa using hi1
  have hDi : D i = false := by simpa [Array.getD_eq_getD_getElem?, hl i hin] using hi2
  obtain ⟨o', ρ, hz, ho', hρ⟩ := hzip i hin
  have : o' = o := by
   have h1 : all.toArray[i]? = some o' := by simpa using ho'
   rw [h1] at ho; exact Option.some.inj ho
  subst this
  have f := hfact i o' ρ hz
  -- what stands ahead is done
  have hpre : ∀ k, (bs.getD i 0).testBit k = true → D k = true := by
   intro k hk
   obtain ⟨e, he, hb, h1⟩ := st.bit i o' ho' k hk
   have hlt := st.back i o' ho' e he hb
   have hon := hedges e (by simpa using he) hb
   have hDe : D e.on = true := by simpa [Array.getD_eq_getD_getElem?, hl e.on (by omega)] using hon
   rcases h1 with rfl | h1
   · exact hDe
   · exact hcl e.on hDe k h1
  have hpost : ∀ j, D j = true → (bs.getD j 0).testBit i = true → False := by
   intro j hj hb
   rw [hcl j hj i hb] at hDi; cases hDi
  -- where a place is met by this one, the others agree with the order of the text
  have agree : ∀ (j : Nat) (o2 : Oper) (ρ2 : Rec), (all.zip recs)[j]? = some (o2, ρ2) → j ≠ i → (j < i → (bs.getD i 0).testBit j = true ∨ D j = upTo i j) → (i < j → (bs.getD j 0).testBit i = true ∨ D j = upTo i j) → D j = upTo i j := by
   intro j o2 ρ2 hj hne h1 h2
   rcases Nat.lt_or_gt_of_ne hne with hlt | hgt
   · rcases h1 hlt with h | h
     · rw [hpre j h, upTo_iff.2 hlt]
     · exact h
   · rcases h2 hgt with h | h
     · have : D j = false := by
         cases hd : D j with
         | false => rfl
         | true => exact (hpost j hd h).elim
       rw [this, upTo_false.2 (by omega)]
     · exact h
  have aT : ∀ t ∈ looks all o', TD (all.zip recs) D 0 T0 t = TD (all.zip recs) (upTo i) 0 T0 t := by
   intro t htl
   refine TD_congr _ _ _ 0 _ _ t rfl (fun j o2 ρ2 hj hd => ?_)
   simp only [Nat.zero_add]
   obtain ⟨g1, g2, g3⟩ := hzipr j o2 ρ2 hj
   by_cases hji : j = i
   · subst hji; rw [hDi, upTo_false.2 (by omega)]
   · refine agree j o2 ρ2 hj hji (fun hlt => ?_) (fun hgt => ?_)
     · rcases st.pair j i o2 o' hlt g1 ho' with h | h
       · exact .inl h
       · exact absurd htl ((apartT_spec h).1 t hd).1
     · rcases st.pair i j o' o2 hgt ho' g1 with h | h
       · exact .inl h
       · exact absurd htl ((apartT_spec h).2 t hd)
  have aH : ρ.ex = true → ∀ x, (x ∈ ρ.rs ∨ x ∈ ρ.ups.map (·.1)) → HD (all.zip recs) D 0 h0 x = HD (all.zip recs) (upTo i) 0 h0 x := by
   intro hex x hx
   refine HD_congr _ _ _ 0 _ _ x rfl (fun j o2 ρ2 hj hk => ?_)
   simp only [Nat.zero_add]
   obtain ⟨g1, g2, g3⟩ := hzipr j o2 ρ2 hj
   have hex2 : ρ2.ex = true := by
    cases he : ρ2.ex with
    | true => rfl
    | false => rw [((hfact j o2 ρ2 hj).idle he).2.1] at hk; cases hk
   by_cases hji : j = i
   · subst hji; rw [hDi, upTo_false.2 (by omega)]
   · refine agree j o2 ρ2 hj hji (fun hlt => ?_) (fun hgt => ?_)
     · have := hfeet j i ρ2 ρ hlt g2 hρ hex2 hex
       simp only [Nat.zero_add] at this
       rcases this with h | h
       · exact .inl h
       · obtain ⟨w1, w2, w3⟩ := apartF_spec h
         rcases hx with hx | hx
         · exact absurd hk (w3 x hx)
         · exact absurd hk (w1 x hx)
     · have := hfeet i j ρ ρ2 hgt hρ g2 hex hex2
       simp only [Nat.zero_add] at this
       rcases this with h | h
       · exact .inl h
       · obtain ⟨w1, w2, w3⟩ := apartF_spec h
         rcases hx with hx | hx
         · exact absurd hx (w2 x hk)
         · exact absurd hx (w1 x hk)
  have hcl' : ∀ j, (D j || j == i) = true → ∀ k, (bs.getD j 0).testBit k = true → (D k || k == i) = true := by
   intro j hj k hk
   simp only [Bool.or_eq_true, beq_iff_eq] at hj ⊢
   rcases hj with hj | rfl
   · exact .inl (hcl j hj k hk)
   · exact .inl (hpre k hk)
  have hcnt : cnt (fun j => D j || j == i) all.length ≤ fuel := by
   have := cnt_lt (D := D) (D' := fun j => D j || j == i) (n := all.length) (i := i) (fun j _ hj => by simp [hj]) hin hDi (by simp)
   omega
  have hl' : ∀ j, j < all.length → (listed.setIfInBounds i true)[j]? = some (D j || j == i) := by
   intro j hj
   rw [Array.getElem?_setIfInBounds]
   by_cases hij : i = j
   · subst hij; simp [hsz, hj]
   · have : (j == i) = false := by simpa using Ne.symm hij
     simp [hij, hl j hj, this]
  have hout' : ∀ j, all.length ≤ j → (D j || j == i) = false := by
   intro j hj
   simp [hout j hj]; omega
  have hTadd : TD (all.zip recs) (fun j => D j || j == i) 0 T0 = updT (TD (all.zip recs) D 0 T0) o'.dst ρ.r := by
   have := TD_add (all.zip recs) D 0 i T0 o' ρ hz (by simpa using hDi) (fun j o2 ρ2 hij hj hDj d hd => by
    simp only [Nat.zero_add] at hDj
    obtain ⟨g1, -, -⟩ := hzipr j o2 ρ2 hj
    rcases st.pair i j o' o2 hij ho' g1 with h | h
    · exact (hpost j hDj h).elim
    · exact ((apartT_spec h).1 d hd).2)
   simpa using this
  have hHadd : HD (all.zip recs) (fun j => D j || j == i) 0 h0 = updF ρ.ups (HD (all.zip recs) D 0 h0) := by
   have := HD_add (all.zip recs) D 0 i h0 o' ρ hz (by simpa using hDi) (fun j o2 ρ2 hij hj hDj x hx hx2 => by
    simp only [Nat.zero_add] at hDj
    obtain ⟨g1, g2, -⟩ := hzipr j o2 ρ2 hj
    have hex : ρ.ex = true := by
     cases he : ρ.ex with
     | true => rfl
     | false => rw [(f.idle he).2.1] at hx; cases hx
    have hex2 : ρ2.ex = true := by
     cases he : ρ2.ex with
     | true => rfl
     | false => rw [((hfact j o2 ρ2 hj).idle he).2.1] at hx2; cases hx2
    have := hfeet i j ρ ρ2 hij hρ g2 hex hex2
    simp only [Nat.zero_add] at this
    rcases this with h | h
    · exact hpost j hDj h
    · exact (apartF_spec h).1 x hx2 hx)
   simpa using this
  have hwT : wantedT all n (TD (all.zip recs) D 0 T0) o' = some ρ.ex := by
   rw [← f.want]
   unfold wantedT
   cases hg : o'.guard with
   | none => rfl
   | some p =>
    obtain ⟨g, b⟩ := p
    simp only []
    cases hag : all[g]? with
    | none => rfl
    | some og =>
     simp only []
     cases hod : og.dst with
     | none => rfl
     | some d =>
      simp only []
      rw [aT d (by simp [looks, hg, nth?_eq, hag, hod])]
  unfold wpOpIn
  simp only [List.getElem?_toArray, ho']
  rw [wanted_eq hS hwT]
  cases hex : ρ.ex with
  | false =>
   simp only [Bool.false_eq_true, if_false]
   obtain ⟨e1, e2, -, -⟩ := f.idle hex
   rw [e1] at hTadd
   rw [e2] at hHadd
   simp only [updF] at hHadd
   refine ⟨fun f _ => FR_fn ro f, ih (fun j => D j || j == i) _ _ w Im θ hcnt (by simpa using hsz) hl' hout' hcl' (by rw [put_defers]; exact hdf) ?_ ?_ ?_⟩
   · rw [hTadd, hHadd]; exact hS.skip f.dst
   · rw [hHadd]
     intro x hx
     rcases hfr x hx with h1 | ⟨j, o2, ρ2, hj, h2⟩
     · exact .inl h1
     · exact .inr ⟨j, o2, ρ2, by simp [hj], h2⟩
   · rw [hHadd]; exact hE
  | true =>
   simp only [if_true]
   have hrun := f.run hex
   have hrun1 : mrun (HD (all.zip recs) D 0 h0) (opM P κ o' (evT (TD (all.zip recs) D 0 T0)) ρ.nx0) = some (ρ.r, ρ.ups, ρ.nx1, ρ.rs) := by
    have e : opM P κ o' (evT (TD (all.zip recs) D 0 T0)) ρ.nx0 = opM P κ o' (evT (TD (all.zip recs) (upTo i) 0 T0)) ρ.nx0 := by
     refine opM_congr (fun x hx => ?_) _
     cases x with
     | tmp t =>
      simp only [evT]
      exact aT t (by simp only [looks, List.mem_append]; exact .inr (tmpsOf_mem (by simpa using hx)))
     | _ => rfl
    rw [e]
    exact mrun_congr _ _ hrun (fun x hx => aH hex x (.inl hx))
   obtain ⟨hle, hkeys⟩ := opM_wf hrun
   have hfresh : ∀ x, ρ.nx0 ≤ x → x < ρ.nx1 → θ x = none ∧ HD (all.zip recs) D 0 h0 x = none := by
    intro x h1 h2
    have key : ¬ (θ x ≠ none ∨ HD (all.zip recs) D 0 h0 x ≠ none) := by
     intro hh
     rcases hfr x hh with h3 | ⟨j, o2, ρ2, hj, hj2, h3, h4⟩
     · have := f.lo; omega
     · rcases Nat.lt_trichotomy i j with h5 | h5 | h5
       · have := hord i j o' ρ o2 ρ2 h5 hz hj2; omega
       · subst h5; rw [hDi] at hj; cases hj
       · have := hord j i o2 ρ2 o' ρ h5 hj2 hz; omega
    constructor
    · cases hθ : θ x with
      | none => rfl
      | some p => exact (key (.inl (by simp [hθ]))).elim
    · cases hθ : HD (all.zip recs) D 0 h0 x with
      | none => rfl
      | some p => exact (key (.inr (by simp [hθ]))).elim
   refine op_good hκ hS.hp (fun x _ => hS.eval x) hfresh hrun1 ro _ _ (fun v w' Im' θ' hE' hv hH => ?_)
   have hS' := hS.step f.dst hE' hv hH
   refine ih (fun j => D j || j == i) _ _ w' Im' θ' hcnt (by simpa using hsz) hl' hout' hcl' (by rw [put_defers]; exact hdf) ?_ ?_ ?_
   · rw [hTadd, hHadd]; exact hS'
   · rw [hHadd]
     intro x hx
     by_cases hnew : ρ.nx0 ≤ x ∧ x < ρ.nx1
     · exact .inr ⟨i, o', ρ, by simp, hz, hnew.1, hnew.2⟩
     · have hx' : θ x ≠ none ∨ HD (all.zip recs) D 0 h0 x ≠ none := by
         rcases hx with hx | hx
         · rw [hE'.thOld x hnew] at hx; exact .inl hx
         · right
           by_cases hxk : x ∈ ρ.ups.map (·.1)
           · obtain ⟨p, hp, rfl⟩ := List.mem_map.1 hxk
             rcases hkeys p hp with h1 | h1
             · obtain ⟨c, hc⟩ := mrun_reads _ _ hrun1 p.1 h1
               simp [hc]
             · exact absurd h1 hnew
           · rwa [updF_not hxk] at hx
       rcases hfr x hx' with h1 | ⟨j, o2, ρ2, hj, h2⟩
       · exact .inl h1
       · exact .inr ⟨j, o2, ρ2, by simp [hj], h2⟩
   · rw [hHadd]
     exact hE.trans (hE'.mono (fun x hx => by have := f.lo; omega))
end Go.Am
/- The abstract machine: a region whose guards are not decided. -/
namespace Go.Am
variable {P : Program} {ω : Nat → Value}
structure StOk (s : St) : Prop where
 size : s.size < 16000
 nx : s.nx < 1000000
 out : ∀ t, s.size ≤ t → s.tmp t = .junk
 dom : ∀ x c, s.hp.get x = some c → x < s.nx
 m : s.m ≤ s.nx
theorem evT_ev (s : St) : s.ev = evT s.tmp := by
 funext x; cases x <;> rfl
theorem tmp_put {s : St} {dst : Option Nat} {v : SV} (h : dstN s.size dst) (hs : s.size < 16000) : (s.put dst v).tmp = updT s.tmp dst v := by
 cases dst with
 | none => rfl
 | some d =>
  funext t
  simp only [St.put, St.tmp, updT]
  rw [Tr.get_set 14 s.tm d (some v) t (by simp only [dstN] at h; omega)]
  by_cases e : t = d <;> simp [e]
def holds (T : Nat → SV) (L : Chain) : Prop := ∀ p ∈ L, T p.1 = .bool p.2
structure Inv (env : List (Nat × Chain)) (Ta Ts : Nat → SV) : Prop where
 out : ∀ t, chainOf env t = none → Ta t = Ts t
 yes : ∀ t L, chainOf env t = some L → holds Ta L → Ta t = Ts t
 no : ∀ t L, chainOf env t = some L → ¬ holds Ta L → Ta t = .tup []
 guards : ∀ t L, chainOf env t = some L → ∀ p ∈ L, ∃ c, chainOf env p.1 = some c
theorem eqChain_eq : ∀ {a b : Chain}, eqChain a b = true → a = b
 | [], [], _ => rfl
 | [], _ :: _, h => by simp [eqChain] at h
 | _ :: _, [], h => by simp [eqChain] at h
 | (a, b) :: l, (c, d) :: m, h => by
  simp only [eqChain, Bool.and_eq_true, beq_iff_eq] at h
  rw [Nat.eq_of_beq_eq_true h.1.1, h.1.2, eqChain_eq h.2]
theorem endsIn_holds {T : Nat → SV} {a : Chain} : ∀ {b : Chain}, endsIn a b = true → holds T b → holds T a
 | [], h, hb => by
  simp only [endsIn] at h
  rw [eqChain_eq h]; exact hb
 | p :: l, h, hb => by
  simp only [endsIn, Bool.or_eq_true] at h
  rcases h with h | h
  · rw [eqChain_eq h]; exact hb
  · exact endsIn_holds h (fun q hq => hb q (by simp [hq]))
theorem underOk_eq {env : List (Nat × Chain)} {Ta Ts : Nat → SV} (inv : Inv env Ta Ts) {L : Chain} (hL : holds Ta L) : ∀ {l : List Operand}, underOk env L l = true → ∀ x ∈ l, evT Ta x = evT Ts x
 | [], _, _, hx => by cases hx
 | y :: l, h, x, hx => by
  rcases List.mem_cons.1 hx with rfl | hx
  · cases x with
    | tmp t =>
     simp only [underOk, Bool.and_eq_true] at h
     simp only [evT]
     cases hc : chainOf env t with
     | none => exact inv.out t hc
     | some c =>
      rw [hc] at h
      exact inv.yes t c hc (endsIn_holds h.1 hL)
    | _ => rfl
  · refine underOk_eq inv hL (l := l) ?_ x hx
    cases y <;> simp only [underOk, Bool.and_eq_true] at h <;> first | exact h.2 | exact h
theorem mspec_run {h : Tr Chunk} {nx : Nat} : ∀ {m : OpM} {r : SV}, mspec h nx m = some r → ∃ rs, mrun h.get m = some (r, [], nx, rs)
 | .done r0 ups nx0, r, hm => by
  simp only [mspec] at hm
  cases ups with
  | cons => cases hm
  | nil =>
   simp only [] at hm
   cases hb : Nat.beq nx0 nx with
   | false => simp [hb] at hm
   | true =>
    simp [hb] at hm
    subst hm
    rw [Nat.eq_of_beq_eq_true hb]
    exact ⟨[], rfl⟩
 | .get x f, r, hm => by
  simp only [mspec] at hm
  cases hx : h.get x with
  | none => simp [hx] at hm
  | some c =>
   simp only [hx] at hm
   obtain ⟨rs, hr⟩ := mspec_run hm
   exact ⟨x :: rs, by simp [mrun, hx, hr]⟩
 | .ite _ _ _, _, hm => by simp [mspec] at hm
 | .fail, _, hm => by simp [mspec] at hm
theorem mergeSV_eq {t : Bool} {a b r : SV} (h : mergeSV t a b = some r) : r = if t then a else b := by
 unfold mergeSV at h
 split at h
 · simp only [Option.some.injEq] at h; subst h; cases t <;> rfl
 · rename_i k x k' y
   cases hk : ikEq k k' with
   | false => simp [hk] at h
   | true =>
    simp [hk] at h
    have := ikEq_eq hk
    subst this
    subst h; cases t <;> rfl
 · simp only [Option.some.injEq] at h; subst h; cases t <;> rfl
 · cases h
theorem specOp_run {κ : Nat → Option CSumm} {o : Oper} {s : St} {r : SV} {env : List (Nat × Chain)} {L : Chain} {Ta : Nat → SV} (inv : Inv env Ta s.tmp) (hL : holds Ta L) (hu : opUnder env L o.op = true) (h : specOp P κ o s = some r) :
  ∃ rs, mrun s.hp.get (opM P κ o (evT Ta) s.nx) = some (r, [], s.nx, rs) := by
 by_cases hp : ∃ c a b, o.op = .pick c a b
 · obtain ⟨c, a, b, hop⟩ := hp
   obtain ⟨dst, op, type, pos, after, guard⟩ := o
   simp only at hop
   subst hop
   simp only [specOp] at h
   simp only [opM]
   rw [evT_ev] at h
   split at h
   · rename_i t ht
     have hr := mergeSV_eq h
     have key : evT Ta c = .bool t ∧ (t = true → evT Ta a = evT s.tmp a) ∧ (t = false → evT Ta b = evT s.tmp b) := by
      cases c with
      | tmp tc =>
       simp only [opUnder, Bool.and_eq_true] at hu
       have hc := underOk_eq inv hL hu.1.1 (.tmp tc) (by simp)
       rw [ht] at hc
       refine ⟨hc, fun e => ?_, fun e => ?_⟩
       · refine underOk_eq inv (L := (tc, true) :: L) ?_ hu.1.2 a (by simp)
         intro p hp
         rcases List.mem_cons.1 hp with rfl | hp
         · simp only [evT] at hc; rw [hc, e]
         · exact hL p hp
       · refine underOk_eq inv (L := (tc, false) :: L) ?_ hu.2 b (by simp)
         intro p hp
         rcases List.mem_cons.1 hp with rfl | hp
         · simp only [evT] at hc; rw [hc, e]
         · exact hL p hp
      | const v =>
       have g := underOk_eq inv hL (show underOk env L [.const v, a, b] = true by simpa [opUnder, Op.operands] using hu)
       exact ⟨ht, fun _ => g a (by simp), fun _ => g b (by simp)⟩
      | global v =>
       have g := underOk_eq inv hL (show underOk env L [.global v, a, b] = true by simpa [opUnder, Op.operands] using hu)
       exact ⟨ht, fun _ => g a (by simp), fun _ => g b (by simp)⟩
      | func v =>
       have g := underOk_eq inv hL (show underOk env L [.func v, a, b] = true by simpa [opUnder, Op.operands] using hu)
       exact ⟨ht, fun _ => g a (by simp), fun _ => g b (by simp)⟩
     simp only [opM0, key.1]
     simp only [mrun]
     cases t with
     | true => rw [key.2.1 rfl]; simp at hr; rw [hr]; exact ⟨[], rfl⟩
     | false => rw [key.2.2 rfl]; simp at hr; rw [hr]; exact ⟨[], rfl⟩
   · cases h
 · have hs : specOp P κ o s = mspec s.hp s.nx (opM P κ o s.ev s.nx) := by
     unfold specOp
     split
     · rename_i c a b hop; exact absurd ⟨c, a, b, hop⟩ hp
     · rfl
   rw [hs, evT_ev] at h
   obtain ⟨rs, hr⟩ := mspec_run h
   have hu' : underOk env L o.op.operands.toList = true := by
    unfold opUnder at hu
    split at hu
    · rename_i c a b hop; exact absurd ⟨_, a, b, hop⟩ hp
    · exact hu
   have e : opM P κ o (evT Ta) s.nx = opM P κ o (evT s.tmp) s.nx := opM_congr (fun x hx => underOk_eq inv hL hu' x (by simpa using hx)) _
   rw [e]
   exact ⟨rs, hr⟩
theorem chainOf_put {env : List (Nat × Chain)} {L : Chain} {d t : Nat} : chainOf (envPut env L (some d)) t = if t = d then some L else chainOf env t := by
 simp only [envPut, chainOf]
 by_cases e : t = d
 · subst e; rw [nb_t rfl]; simp
 · rw [nb_f (Ne.symm e)]; simp [e]
theorem specC_run {κ : Nat → Option CSumm} {all : List Oper} : ∀ (os : List Oper) (env env' : List (Nat × Chain)) (s s' : St) (Ta : Nat → SV), StOk s → specC P κ all os env s = some (env', s') → Inv env Ta s.tmp →
  ∃ recs Ta', Txt P κ all s.size os Ta s.hp.get s.nx recs Ta' s.hp.get s.nx ∧ (∀ ρ ∈ recs, ρ.ups = []) ∧ Inv env' Ta' s'.tmp ∧ StOk s' ∧ s'.size = s.size ∧ s'.hp = s.hp ∧ s'.nx = s.nx ∧ s'.m = s.m ∧ s'.dirty = s.dirty ∧
   (∀ p ∈ env', p ∈ env ∨ p.1 < s.size)
 | [], env, env', s, s', Ta, hs, h, inv => by
  simp only [specC, Option.some.injEq, Prod.mk.injEq] at h
  obtain ⟨rfl, rfl⟩ := h
  exact ⟨[], Ta, .nil, fun _ h => (by cases h), inv, hs, rfl, rfl, rfl, rfl, rfl, fun p hp => .inl hp⟩
 | o :: os, env, env', s, s', Ta, hs, h, inv => by
  simp only [specC] at h
  cases hc : specChain all env s o.guard with
  | none => simp [hc] at h
  | some L =>
   simp only [hc] at h
   cases hd : specDst env s o.dst && opUnder env L o.op with
   | false => simp [hd] at h
   | true =>
    simp only [hd, cond_true] at h
    simp only [Bool.and_eq_true] at hd
    cases hr : specOp P κ o s with
    | none => simp [hr] at h
    | some r =>
     simp only [hr] at h
     have hdN : dstN s.size o.dst := by
      have := hd.1
      cases hod : o.dst with
      | none => trivial
      | some d =>
       rw [hod] at this
       simp only [specDst, Bool.and_eq_true] at this
       have h1 := this.1
       rwa [Nat.blt_eq] at h1
     have hdE : ∀ d, o.dst = some d → chainOf env d = none := by
      intro d hod
      have := hd.1
      rw [hod] at this
      simp only [specDst, Bool.and_eq_true] at this
      cases hx : chainOf env d with
      | none => rfl
      | some c => rw [hx] at this; exact absurd this.2 (by simp)
     have htm := tmp_put (v := r) hdN hs.size
     have hs1 : StOk (s.put o.dst r) := by
      have e1 : (s.put o.dst r).size = s.size := by cases o.dst <;> rfl
      have e2 : (s.put o.dst r).nx = s.nx := by cases o.dst <;> rfl
      have e3 : (s.put o.dst r).hp = s.hp := by cases o.dst <;> rfl
      have e4 : (s.put o.dst r).m = s.m := by cases o.dst <;> rfl
      refine ⟨by rw [e1]; exact hs.size, by rw [e2]; exact hs.nx, ?_, by rw [e3, e2]; exact hs.dom, by rw [e4, e2]; exact hs.m⟩
      rw [e1, htm]
      intro t ht
      cases hod : o.dst with
      | none => simpa [updT] using hs.out t ht
      | some d =>
       rw [hod] at hdN
       have : t ≠ d := by intro e; subst e; simp only [dstN] at hdN; omega
       simp [updT, this, hs.out t ht]
     have esz : (s.put o.dst r).size = s.size := by cases o.dst <;> rfl
     have enx : (s.put o.dst r).nx = s.nx := by cases o.dst <;> rfl
     have ehp : (s.put o.dst r).hp = s.hp := by cases o.dst <;> rfl
     have em : (s.put o.dst r).m = s.m := by cases o.dst <;> rfl
     have edi : (s.put o.dst r).dirty = s.dirty := by cases o.dst <;> rfl
     -- the guard
     have hg : (∃ go, wantedT all s.size Ta o = some go ∧ (go = true → holds Ta L) ∧ (go = false → ¬ holds Ta L)) ∧ (∀ p ∈ L, ∃ c, chainOf env p.1 = some c) := by
      unfold specChain at hc
      unfold wantedT
      cases hgd : o.guard with
      | none =>
       rw [hgd] at hc
       simp only [Option.some.injEq] at hc
       subst hc
       exact ⟨⟨true, rfl, fun _ p hp => (by cases hp), fun h => (by cases h)⟩, fun p hp => (by cases hp)⟩
      | some jw =>
       obtain ⟨j, w⟩ := jw
       rw [hgd] at hc
       simp only [nth?_eq] at hc
       simp only []
       cases hj : all[j]? with
       | none => simp [hj] at hc
       | some oj =>
        simp only [hj] at hc ⊢
        cases hjd : oj.dst with
        | none => simp [hjd] at hc
        | some d =>
         simp only [hjd] at hc ⊢
         split at hc
         · rename_i c b hce hsb
           cases hlt : Nat.blt d s.size with
           | false => simp [hlt] at hc
           | true =>
            simp only [hlt, cond_true, Option.some.injEq] at hc
            subst hc
            have hdn : d < s.size := by rwa [Nat.blt_eq] at hlt
            simp only [hdn, if_true]
            constructor
            · by_cases hh : holds Ta c
              · have e := inv.yes d c hce hh
                rw [hsb] at e
                rw [e]
                refine ⟨b == w, rfl, fun hgo p hp => ?_, fun hgo hall => ?_⟩
                · rcases List.mem_cons.1 hp with rfl | hp
                  · simp only [beq_iff_eq] at hgo; rw [e, hgo]
                  · exact hh p hp
                · have := hall (d, w) (by simp)
                  rw [e] at this
                  simp only [SV.bool.injEq] at this
                  rw [this] at hgo
                  simp at hgo
              · have e := inv.no d c hce hh
                rw [e]
                exact ⟨false, rfl, fun h => (by cases h), fun _ hall => hh (fun p hp => hall p (by simp [hp]))⟩
            · intro p hp
              rcases List.mem_cons.1 hp with rfl | hp
              · exact ⟨c, hce⟩
              · exact inv.guards d c hce p hp
         · cases hc
     obtain ⟨⟨go, hw, hgo1, hgo2⟩, hguards⟩ := hg
     -- what is put keeps the invariant
     have hinv : ∀ v, (holds Ta L → v = r) → (¬ holds Ta L → v = .tup []) → Inv (envPut env L o.dst) (updT Ta o.dst v) (s.put o.dst r).tmp := by
      intro v hv1 hv2
      rw [htm]
      cases hod : o.dst with
      | none => exact inv
      | some d =>
       have hdn := hdE d hod
       have hne : ∀ p1, (∃ c, chainOf env p1 = some c) → p1 ≠ d := by
        rintro p1 ⟨c, hc⟩ rfl
        rw [hdn] at hc; cases hc
       have hsame : ∀ M : Chain, (∀ p ∈ M, ∃ c, chainOf env p.1 = some c) → (holds (updT Ta (some d) v) M ↔ holds Ta M) := by
        intro M hM
        constructor
        · intro hh p hp
          have := hh p hp
          simpa [updT, hne p.1 (hM p hp)] using this
        · intro hh p hp
          simpa [updT, hne p.1 (hM p hp)] using hh p hp
       refine ⟨?_, ?_, ?_, ?_⟩
       · intro t ht
         rw [chainOf_put] at ht
         by_cases e : t = d
         · simp [e] at ht
         · simp only [e, if_false] at ht
           simp [updT, e, inv.out t ht]
       · intro t M ht hh
         rw [chainOf_put] at ht
         by_cases e : t = d
         · simp only [e, if_true, Option.some.injEq] at ht
           subst ht
           rw [hsame L hguards] at hh
           simp [updT, e, hv1 hh]
         · simp only [e, if_false] at ht
           rw [hsame M (inv.guards t M ht)] at hh
           simp [updT, e, inv.yes t M ht hh]
       · intro t M ht hh
         rw [chainOf_put] at ht
         by_cases e : t = d
         · simp only [e, if_true, Option.some.injEq] at ht
           subst ht
           rw [hsame L hguards] at hh
           simp [updT, e, hv2 hh]
         · simp only [e, if_false] at ht
           rw [hsame M (inv.guards t M ht)] at hh
           simp [updT, e, inv.no t M ht hh]
       · intro t M ht p hp
         rw [chainOf_put] at ht
         have : ∃ c, chainOf env p.1 = some c := by
          by_cases e : t = d
          · simp only [e, if_true, Option.some.injEq] at ht
            subst ht
            exact hguards p hp
          · simp only [e, if_false] at ht
            exact inv.guards t M ht p hp
         obtain ⟨c, hc⟩ := this
         exact ⟨c, by rw [chainOf_put, if_neg (hne p.1 ⟨c, hc⟩)]; exact hc⟩
     have henv : ∀ p ∈ envPut env L o.dst, p ∈ env ∨ p.1 < s.size := by
      intro p hp
      cases hod : o.dst with
      | none => rw [hod] at hp; exact .inl hp
      | some d =>
       rw [hod] at hp hdN
       simp only [envPut, List.mem_cons] at hp
       rcases hp with rfl | hp
       · exact .inr hdN
       · exact .inl hp
     cases go with
     | true =>
      have hh := hgo1 rfl
      obtain ⟨rs, hm⟩ := specOp_run inv hh hd.2 hr
      obtain ⟨recs, Ta', ht, hups, hi, hs', g1, g2, g3, g4, g5, g6⟩ := specC_run os _ env' _ s' (updT Ta o.dst r) hs1 h (hinv r (fun _ => rfl) (fun hn => absurd hh hn))
      rw [esz, ehp, enx] at ht
      refine ⟨_ :: recs, Ta', .run hdN hw hm ht, ?_, hi, hs', by rw [g1, esz], by rw [g2, ehp], by rw [g3, enx], by rw [g4, em], by rw [g5, edi], fun p hp => ?_⟩
      · intro ρ hρ
        rcases List.mem_cons.1 hρ with rfl | hρ
        · rfl
        · exact hups ρ hρ
      · rcases g6 p hp with h1 | h1
        · exact henv p h1
        · exact .inr (by rwa [esz] at h1)
     | false =>
      have hh := hgo2 rfl
      obtain ⟨recs, Ta', ht, hups, hi, hs', g1, g2, g3, g4, g5, g6⟩ := specC_run os _ env' _ s' (updT Ta o.dst (.tup [])) hs1 h (hinv (.tup []) (fun hy => absurd hy hh) (fun _ => rfl))
      rw [esz, ehp, enx] at ht
      refine ⟨_ :: recs, Ta', .skip hdN hw ht, ?_, hi, hs', by rw [g1, esz], by rw [g2, ehp], by rw [g3, enx], by rw [g4, em], by rw [g5, edi], fun p hp => ?_⟩
      · intro ρ hρ
        rcases List.mem_cons.1 hρ with rfl | hρ
        · rfl
        · exact hups ρ hρ
      · rcases g6 p hp with h1 | h1
        · exact henv p h1
        · exact .inr (by rwa [esz] at h1)
theorem forget_spec : ∀ (env : List (Nat × Chain)) (s : St), StOk s → (∀ p ∈ env, p.1 < s.size) → StOk (forget env s) ∧ (forget env s).size = s.size ∧ (forget env s).hp = s.hp ∧ (forget env s).nx = s.nx ∧ (forget env s).m = s.m ∧ (forget env s).dirty = s.dirty ∧
  (∀ t, (forget env s).tmp t = .junk ∨ ((forget env s).tmp t = s.tmp t ∧ ∀ L, (t, L) ∈ env → L = []))
 | [], s, hs, _ => ⟨hs, rfl, rfl, rfl, rfl, rfl, fun t => .inr ⟨rfl, fun L hL => by cases hL⟩⟩
 | (x, []) :: l, s, hs, hp => by
  simp only [forget]
  obtain ⟨g1, g2, g3, g4, g5, g6, g7⟩ := forget_spec l s hs (fun p h => hp p (by simp [h]))
  refine ⟨g1, g2, g3, g4, g5, g6, fun t => ?_⟩
  rcases g7 t with h | ⟨h1, h2⟩
  · exact .inl h
  · refine .inr ⟨h1, fun L hL => ?_⟩
    rcases List.mem_cons.1 hL with h3 | h3
    · cases h3; rfl
    · exact h2 L h3
 | (x, q :: c) :: l, s, hs, hp => by
  simp only [forget]
  have hx : x < s.size := hp (x, q :: c) (by simp)
  have htm := tmp_put (s := s) (dst := some x) (v := .junk) hx hs.size
  have hs1 : StOk (s.put (some x) .junk) := by
   refine ⟨hs.size, hs.nx, ?_, hs.dom, hs.m⟩
   rw [htm]
   intro t ht
   by_cases e : t = x
   · simp [updT, e]
   · simp only [updT, e, if_false]; exact hs.out t ht
  obtain ⟨g1, g2, g3, g4, g5, g6, g7⟩ := forget_spec l (s.put (some x) .junk) hs1 (fun p h => hp p (by simp [h]))
  refine ⟨g1, g2, g3, g4, g5, g6, fun t => ?_⟩
  rcases g7 t with h | ⟨h1, h2⟩
  · exact .inl h
  · rw [htm] at h1
    by_cases e : t = x
    · left; rw [h1]; simp [updT, e]
    · refine .inr ⟨by rw [h1]; simp [updT, e], fun L hL => ?_⟩
      rcases List.mem_cons.1 hL with h3 | h3
      · simp only [Prod.mk.injEq] at h3; exact absurd h3.1 e
      · exact h2 L h3
theorem chainOf_mem : ∀ {env : List (Nat × Chain)} {t : Nat} {L : Chain}, chainOf env t = some L → (t, L) ∈ env
 | [], _, _, h => by cases h
 | (x, c) :: l, t, L, h => by
  simp only [chainOf] at h
  cases hb : Nat.beq x t with
  | true => rw [hb] at h; simp at h; subst h; rw [Nat.eq_of_beq_eq_true hb]; simp
  | false => rw [hb] at h; simp at h; simp [chainOf_mem h]
theorem specRun_run {κ : Nat → Option CSumm} {ops : List Oper} {draw : Bool} {s s' : St} (hs : StOk s) (h : specRun P κ ops draw s = some s') :
  (draw = true → staticOk ops (befAll ops []) [] ops 0 = true) ∧ ∃ recs Ta, Txt P κ ops s.size ops s.tmp s.hp.get s.nx recs Ta s.hp.get s.nx ∧ (∀ ρ ∈ recs, ρ.ups = []) ∧ StOk s' ∧ s'.size = s.size ∧ s'.hp = s.hp ∧ s'.nx = s.nx ∧ s'.m = s.m ∧ s'.dirty = s.dirty ∧
   (∀ t, s'.tmp t = .junk ∨ s'.tmp t = Ta t) := by
 unfold specRun at h
 cases hc : s.sp && hasGuard ops && (!draw || staticOk ops (befAll ops []) [] ops 0) with
 | false => simp [hc] at h
 | true =>
  simp only [hc, cond_true] at h
  simp only [Bool.and_eq_true, Bool.or_eq_true, Bool.not_eq_true'] at hc
  cases hsp : specC P κ ops ops [] s with
  | none => simp [hsp] at h
  | some p =>
   obtain ⟨env, s1⟩ := p
   simp only [hsp, Option.some.injEq] at h
   subst h
   have inv0 : Inv [] s.tmp s.tmp := ⟨fun _ _ => rfl, fun t L h => (by cases h), fun t L h => (by cases h), fun t L h => (by cases h)⟩
   obtain ⟨recs, Ta, ht, hups, hi, hs1, g1, g2, g3, g4, g5, g6⟩ := specC_run ops [] env s s1 s.tmp hs hsp inv0
   obtain ⟨f1, f2, f3, f4, f5, f6, f7⟩ := forget_spec env s1 hs1 (fun p hp => by
    rcases g6 p hp with h | h
    · cases h
    · rw [g1]; exact h)
   refine ⟨fun hd => ?_, recs, Ta, ht, hups, f1, by rw [f2, g1], by rw [f3, g2], by rw [f4, g3], by rw [f5, g4], by rw [f6, g5], fun t => ?_⟩
   · rcases hc.2 with h | h
     · rw [hd] at h; cases h
     · exact h
   · rcases f7 t with h | ⟨h1, h2⟩
     · exact .inl h
     · right
       rw [h1]
       cases hce : chainOf env t with
       | none => exact (hi.out t hce).symm
       | some L =>
        have := h2 L (chainOf_mem hce)
        subst this
        exact (hi.yes t [] hce (fun p hp => by cases hp)).symm
theorem specC_rd {κ : Nat → Option CSumm} {all : List Oper} : ∀ (os : List Oper) (env env' : List (Nat × Chain)) (s s' : St), specC P κ all os env s = some (env', s') → s'.rd = s.rd
 | [], env, env', s, s', h => by
  simp only [specC, Option.some.injEq, Prod.mk.injEq] at h
  rw [h.2]
 | o :: os, env, env', s, s', h => by
  simp only [specC] at h
  cases hc : specChain all env s o.guard with
  | none => simp [hc] at h
  | some L =>
   simp only [hc] at h
   cases hd : specDst env s o.dst && opUnder env L o.op with
   | false => simp [hd] at h
   | true =>
    simp only [hd, cond_true] at h
    cases hr : specOp P κ o s with
    | none => simp [hr] at h
    | some r =>
     simp only [hr] at h
     rw [specC_rd os _ _ _ _ h]
     cases o.dst <;> rfl
theorem forget_rd : ∀ (env : List (Nat × Chain)) (s : St), (forget env s).rd = s.rd
 | [], s => rfl
 | (x, []) :: l, s => by simp only [forget]; exact forget_rd l s
 | (x, q :: c) :: l, s => by simp only [forget]; rw [forget_rd l]; rfl
theorem specRun_rd {κ : Nat → Option CSumm} {ops : List Oper} {draw : Bool} {s s' : St} (h : specRun P κ ops draw s = some s') : s'.rd = s.rd := by
 unfold specRun at h
 cases hc : s.sp && hasGuard ops && (!draw || staticOk ops (befAll ops []) [] ops 0) with
 | false => simp [hc] at h
 | true =>
  simp only [hc, cond_true] at h
  cases hsp : specC P κ ops ops [] s with
  | none => simp [hsp] at h
  | some p =>
   obtain ⟨env, s1⟩ := p
   simp only [hsp, Option.some.injEq] at h
   rw [← h, forget_rd, specC_rd _ _ _ _ _ hsp]
theorem SimF.weaken {n : Nat} {T T' : Nat → SV} {h : HpF} {a : Act} {w : World} {Im : Nat → Prop} {θ : Th} (s : SimF P ω n T h a w Im θ) (ht : ∀ t, T' t = .junk ∨ T' t = T t) : SimF P ω n T' h a w Im θ := by
 refine ⟨s.size, fun t htn => ?_, fun t htn => ?_, s.df, s.hp⟩
 · rcases ht t with e | e
   · rw [e]; exact .junk
   · rw [e]; exact s.tm t htn
 · rcases ht t with e | e
   · exact e
   · rw [e]; exact s.out t htn
theorem footsOk_nil (bs : List Nat) : ∀ (l : List Foot), (∀ f ∈ l, f.writes = []) → footsOk bs l = true
 | [], _ => rfl
 | f :: l, h => by
  simp only [footsOk, Bool.and_eq_true]
  refine ⟨List.all_eq_true.2 (fun g hg => ?_), footsOk_nil bs l (fun g hg => h g (by simp [hg]))⟩
  have h1 := h f (by simp)
  have h2 := h g (by simp [hg])
  have : apartF f g = true := by
   unfold apartF
   rw [h1, h2]
   have e : ∀ l : List Nat, overlap l [] = false := by
    intro l
    induction l with
    | nil => rfl
    | cons x l ih => simp [overlap, memN, ih]
   simp [overlap, e]
  simp [this]
theorem feet_nil : ∀ (l : List Rec) (i : Nat) (acc : List Foot), (∀ ρ ∈ l, ρ.ups = []) → (∀ f ∈ acc, f.writes = []) → ∀ f ∈ feet i l acc, f.writes = []
 | [], _, _, _, h => h
 | ρ :: l, i, acc, hl, ha => by
  simp only [feet]
  refine feet_nil l (i + 1) _ (fun σ hσ => hl σ (by simp [hσ])) ?_
  intro f hf
  split at hf
  · rcases List.mem_cons.1 hf with rfl | hf
    · simp [hl ρ (by simp)]
    · exact ha f hf
  · exact ha f hf
end Go.Am
/- The abstract machine: the records of ranges over functions. -/
namespace Go.Am
variable {P : Program} {ω : Nat → Value}
theorem alloc_free {w : World} {Im : Nat → Prop} {θ : Th} {h : HpF} (hr : HRel P ω w Im θ h) (o : Obj) : Ext (fun _ => False) h w Im θ h (w.alloc o) Im θ ∧ HRel P ω (w.alloc o) Im θ h := by
 have hold : ∀ b, b < w.heap.size → (w.alloc o).heap[b]? = w.heap[b]? := fun b hb => alloc_old w _ b hb
 have hI : ∀ b, Im b → Im b ∧ (w.alloc o).heap[b]? = w.heap[b]? := fun b hb => ⟨hb, hold b (hr.im b hb)⟩
 refine ⟨⟨fun _ _ => rfl, fun _ _ h => h, fun _ h => h, by simp, fun b hb _ => hold b hb, fun b hb => .inl hb, fun x c b N hx hb => .inl ⟨x, c, N, hx, hb⟩, rfl, rfl, rfl⟩, ?_⟩
 refine ⟨fun x c hx => (hr.at_ x c hx).mono hI (fun _ _ h => h) rfl (fun b N hb => hold b (hr.own x c b N hx hb).2), hr.inj, fun x c b N hx hb => ⟨(hr.own x c b N hx hb).1, ?_⟩, fun b hb => ?_⟩
 · have := (hr.own x c b N hx hb).2; simp; omega
 · have := hr.im b hb; simp; omega
theorem alloc_loop {w : World} {Im : Nat → Prop} {θ : Th} {h : HpF} (hr : HRel P ω w Im θ h) {nx : Nat} (hθ : θ nx = none) {st : LS} {vs : List SV} {lp : Loop} (hl : LRel P ω w Im θ vs lp.tmps.toList) (hs : stRel st lp.state lp.pending) :
  ∃ θ', Ext (fun x => nx ≤ x ∧ x < nx + 1) h w Im θ (updF [(nx, some (.loopr st vs lp.params lp.assign lp.body))] h) (w.alloc (.loop lp)) Im θ' ∧
   HRel P ω (w.alloc (.loop lp)) Im θ' (updF [(nx, some (.loopr st vs lp.params lp.assign lp.body))] h) ∧ θ' nx = some (w.heap.size, 0) := by
 let θ' : Th := fun x => if x = nx then some (w.heap.size, 0) else θ x
 have hup : ∀ x p, θ x = some p → θ' x = some p := by
  intro x p hp
  by_cases hx : x = nx
  · subst hx; rw [hθ] at hp; cases hp
  · simp [θ', hx, hp]
 have hold : ∀ b, b < w.heap.size → (w.alloc (.loop lp)).heap[b]? = w.heap[b]? := fun b hb => alloc_old w _ b hb
 have hI : ∀ b, Im b → Im b ∧ (w.alloc (.loop lp)).heap[b]? = w.heap[b]? := fun b hb => ⟨hb, hold b (hr.im b hb)⟩
 refine ⟨θ', ?_, ?_, by simp [θ']⟩
 · refine ⟨?_, hup, fun _ h => h, by simp, fun b hb _ => hold b hb, fun b hb => .inl hb, ?_, rfl, rfl, rfl⟩
   · intro x hx
     have : x ≠ nx := by intro e; subst e; exact hx ⟨Nat.le_refl _, Nat.lt_succ_self _⟩
     simp [θ', this]
   · intro x c b N hx hb
     by_cases hxn : x = nx
     · subst hxn
       simp [θ'] at hb
       exact .inr (by omega)
     · simp [θ', hxn] at hb
       simp [updF, hxn] at hx
       exact .inl ⟨x, c, N, hx, hb⟩
 · refine ⟨?_, ?_, ?_, fun b hb => by have := hr.im b hb; simp; omega⟩
   · intro x c hx
     by_cases hxn : x = nx
     · subst hxn
       simp [updF] at hx
       subst hx
       exact ⟨w.heap.size, 0, lp, by simp [θ'], alloc_new w _, rfl, rfl, rfl, hs, hl.mono hI hup⟩
     · simp [updF, hxn] at hx
       exact (hr.at_ x c hx).mono hI hup (by simp [θ', hxn]) (fun b N hb => hold b (hr.own x c b N hx hb).2)
   · intro x y c c' b N N' hx hy hb hb'
     by_cases hxn : x = nx
     · by_cases hyn : y = nx
       · rw [hxn, hyn]
       · simp [updF, hyn] at hy
         simp [θ', hyn] at hb'
         simp [θ', hxn] at hb
         have := (hr.own y c' b N' hy hb').2
         omega
     · by_cases hyn : y = nx
       · simp [updF, hxn] at hx
         simp [θ', hxn] at hb
         simp [θ', hyn] at hb'
         have := (hr.own x c b N hx hb).2
         omega
       · simp [updF, hxn] at hx
         simp [updF, hyn] at hy
         simp [θ', hxn] at hb
         simp [θ', hyn] at hb'
         exact hr.inj x y c c' b N N' hx hy hb hb'
   · intro x c b N hx hb
     by_cases hxn : x = nx
     · simp [θ', hxn] at hb
       refine ⟨fun hi => ?_, by simp; omega⟩
       have := hr.im b hi
       omega
     · simp [updF, hxn] at hx
       simp [θ', hxn] at hb
       have := hr.own x c b N hx hb
       exact ⟨this.1, by simp; omega⟩
theorem put_loop {w : World} {Im : Nat → Prop} {θ : Th} {h : HpF} (hr : HRel P ω w Im θ h) {x b N : Nat} {st st' : LS} {vs : List SV} {ps : Array Nat} {asg bdy : Code} (hx : h x = some (.loopr st vs ps asg bdy)) (hθ : θ x = some (b, N)) :
  ∃ lp : Loop, w.heap[b]? = some (.loop lp) ∧ lp.params = ps ∧ lp.assign = asg ∧ lp.body = bdy ∧ stRel st lp.state lp.pending ∧ LRel P ω w Im θ vs lp.tmps.toList ∧
   ∀ (s : LoopState) (pe : Option Code), stRel st' s pe → Ext (fun _ => False) h w Im θ (updF [(x, some (.loopr st' vs ps asg bdy))] h) (w.putObj b (.loop { lp with state := s, pending := pe })) Im θ ∧
    HRel P ω (w.putObj b (.loop { lp with state := s, pending := pe })) Im θ (updF [(x, some (.loopr st' vs ps asg bdy))] h) := by
 obtain ⟨b', N', lp, h1, h2, h3, h4, h5, h6, h7⟩ := hr.at_ x _ hx
 rw [hθ] at h1
 simp only [Option.some.injEq, Prod.mk.injEq] at h1
 obtain ⟨rfl, rfl⟩ := h1
 refine ⟨lp, h2, h3, h4, h5, h6, h7, fun s pe hs => put_block hr hx hθ _ _ (fun hI d hd => ?_)⟩
 cases hd
 exact ⟨b, N, _, hθ, World.putObj_heap_same (heap_lt h2), h3, h4, h5, hs, h7.mono hI (fun _ _ h => h)⟩
/- The function's end. -/
theorem leaves_marks {fn : Func} {tmps : Array Value} {ro : Option Nat} {R : Ending → World → Prop} : ∀ (rs : List Nat) (w : World), rs.Nodup → (∀ r ∈ rs, w.heap[r]? = some (.deferred (some []))) →
  (∀ w', w'.heap.size = w.heap.size → (∀ b, b ∉ rs → w'.heap[b]? = w.heap[b]?) → w'.os = w.os → w'.output = w.output → w'.tape = w.tape → ∃ v, (results fn tmps).run P w' = .ok v w' ∧ R (.returned v) w') →
  LeavesInM (FR ro) 0 P fn tmps R (rs.map fun r => { target := .collected r, args := #[] }) .returning w
 | [], w, _, _, hR => hR w rfl (fun _ _ => rfl) rfl rfl rfl
 | r :: rs, w, hnd, hat, hR => by
  rw [List.nodup_cons] at hnd
  refine ⟨by simp, .inl ⟨r, _, rfl, run_takeDeferred (hat r (by simp)), ?_⟩⟩
  refine leaves_marks rs _ hnd.2 (fun q hq => ?_) (fun w' h1 h2 h3 h4 h5 => hR w' (by simpa using h1) (fun b hb => ?_) h3 h4 h5)
  · rw [World.putObj_heap_other (show q ≠ r from fun e => hnd.1 (by rw [← e]; exact hq))]; exact hat q (by simp [hq])
  · simp only [List.mem_cons, not_or] at hb
    rw [h2 b hb.2, World.putObj_heap_other hb.1]
end Go.Am
/- The abstract machine: code. -/
namespace Go.Am
variable {P : Program} {ω : Nat → Value}
theorem upsTr_get : ∀ (l : List (Nat × Option Chunk)) (h : Tr Chunk), (∀ p ∈ l, p.1 < 1000000) → (upsTr l h).get = updF l h.get
 | [], _, _ => rfl
 | (x, c) :: l, h, hl => by
  simp only [upsTr, updF]
  rw [upsTr_get l _ (fun p hp => hl p (by simp [hp]))]
  congr 1
  funext y
  rw [Tr.get_set 20 h x c y (by have := hl (x, c) (by simp); simp at this; omega)]
/- What a state says of the model's. -/
structure Sim (P : Program) (ω : Nat → Value) (ρ : Option Nat) (s : St) (a : Act) (w : World) (Im : Nat → Prop) (θ : Th) : Prop where
 ok : StOk s
 sf : SimF P ω s.size s.tmp s.hp.get a w Im θ
 fr : Fr s.nx θ s.hp.get
 rd : (s.rd = none ∧ ρ = none) ∨ ∃ y b N, s.rd = some y ∧ θ y = some (b, N) ∧ ρ = some b
def mark (r : Nat) : Deferred := { target := .collected r, args := #[] }
def New (a a' : Act) (w : World) : Prop := ∃ rs : List Nat, a'.defers = rs.map mark ++ a.defers ∧ ∀ r ∈ rs, w.heap.size ≤ r
theorem New.refl {a a' : Act} {w : World} (h : a'.defers = a.defers) : New a a' w := ⟨[], by simpa using h, fun r hr => by cases hr⟩
theorem New.trans {a a' a'' : Act} {w w' : World} (h : New a a' w) (h' : New a' a'' w') (hs : w.heap.size ≤ w'.heap.size) : New a a'' w := by
 obtain ⟨rs, h1, h2⟩ := h
 obtain ⟨rs', h3, h4⟩ := h'
 refine ⟨rs' ++ rs, by rw [h3, h1]; simp, fun r hr => ?_⟩
 rcases List.mem_append.1 hr with h5 | h5
 · have := h4 r h5; omega
 · exact h2 r h5
structure Later (s s2 : St) : Prop where
 m : s2.m = s.m
 nx : s.nx ≤ s2.nx
 same : ∀ x, x < s.m → s2.hp.get x = s.hp.get x ∨ x ∈ s2.dirty
 up : ∀ x ∈ s.dirty, x ∈ s2.dirty
 low : ∀ x ∈ s2.dirty, x ∈ s.dirty ∨ x < s.m
theorem Later.refl (s : St) : Later s s := ⟨rfl, Nat.le_refl _, fun _ _ => .inl rfl, fun _ h => h, fun _ h => .inl h⟩
theorem Later.of {s s2 : St} (h1 : s2.m = s.m) (h2 : s2.nx = s.nx) (h3 : s2.hp = s.hp) (h4 : s2.dirty = s.dirty) : Later s s2 :=
 ⟨h1, by rw [h2]; exact Nat.le_refl _, fun _ _ => .inl (by rw [h3]), fun _ h => by rw [h4]; exact h, fun _ h => .inl (by rw [← h4]; exact h)⟩
theorem Later.trans {a b c : St} (h : Later a b) (k : Later b c) : Later a c := by
 refine ⟨k.m.trans h.m, Nat.le_trans h.nx k.nx, fun x hx => ?_, fun x hx => k.up x (h.up x hx), fun x hx => ?_⟩
 · rcases k.same x (by rw [h.m]; exact hx) with h1 | h1
   · rcases h.same x hx with h2 | h2
     · exact .inl (h1.trans h2)
     · exact .inr (k.up x h2)
   · exact .inr h1
 · rcases k.low x hx with h1 | h1
   · exact h.low x h1
   · exact .inr (by rw [← h.m]; exact h1)
def exitOf : Ex → Exit
 | .normal => .normal
 | .exit id => .exit id
 | .ret => .ret
def After (P : Program) (ω : Nat → Value) (ρ : Option Nat) (s s2 : St) (a : Act) (w : World) (Im : Nat → Prop) (θ : Th) (K : Act → World → Prop) : Prop :=
 ∀ a' w' Im' θ', Sim P ω ρ s2 a' w' Im' θ' → Ext (fun x => s.nx ≤ x) s.hp.get w Im θ s2.hp.get w' Im' θ' → New a a' w → K a' w'
theorem After.trans {ρ : Option Nat} {s s1 s2 : St} {a a1 : Act} {w w1 : World} {Im Im1 : Nat → Prop} {θ θ1 : Th} {K : Act → World → Prop} (hl : Later s s1)
  (hE : Ext (fun x => s.nx ≤ x) s.hp.get w Im θ s1.hp.get w1 Im1 θ1) (hN : New a a1 w) (h : After P ω ρ s s2 a w Im θ K) : After P ω ρ s1 s2 a1 w1 Im1 θ1 K :=
 fun a' w' Im' θ' sim hE' hN' => h a' w' Im' θ' sim (hE.trans (hE'.mono (fun _ hx => Nat.le_trans hl.nx hx))) (hN.trans hN' hE.size)
def W (P : Program) (ρ : Option Nat) (m : Nat) (c : Code) (Q : Exit → Act → World → Prop) (a : Act) (w : World) : Prop :=
 match c with
 | .loop b => Code.roundsIn (FR ρ) 0 P b Q m a w
 | c => c.wpIn (FR ρ) 0 P Q a w
theorem W.wp {ρ : Option Nat} {m : Nat} {c : Code} {Q : Exit → Act → World → Prop} {a : Act} {w : World} (h : W P ρ m c Q a w) : c.wpIn (FR ρ) 0 P Q a w := by
 cases c with
 | loop b => exact wpIn_loop_rounds m h
 | _ => exact h
structure Comes (P : Program) (c : Code) (s : St) (e : Ex) (s2 : St) : Prop where
 later : Later s s2
 size : s2.size = s.size
 rd : s2.rd = s.rd
 wps : ∃ m, ∀ (ω : Nat → Value) (ρ : Option Nat) (Q : Exit → Act → World → Prop) (a : Act) (w : World) (Im : Nat → Prop) (θ : Th), Sim P ω ρ s a w Im θ → After P ω ρ s s2 a w Im θ (Q (exitOf e)) → W P ρ m c Q a w
theorem Comes.wp {c : Code} {s s2 : St} {e : Ex} (h : Comes P c s e s2) (ρ : Option Nat) (Q : Exit → Act → World → Prop) (a : Act) (w : World) (Im : Nat → Prop) (θ : Th) (sim : Sim P ω ρ s a w Im θ) (hA : After P ω ρ s s2 a w Im θ (Q (exitOf e))) : c.wpIn (FR ρ) 0 P Q a w := by
 obtain ⟨m, hm⟩ := h.wps
 exact (hm ω ρ Q a w Im θ sim hA).wp
def RcrOk {R D : Type} (P : Program) (den : R → Option D) (rec : Rcr R) : Prop :=
 ∀ (c : Code) (s : St) (k : Ex → St → R) (d : D), StOk s → den (rec c s k) = some d → ∃ e s2, StOk s2 ∧ Comes P c s e s2 ∧ den (k e s2) = some d
section
variable {R D : Type} {fl : R} {den : R → Option D} (hfl : den fl = none)
include hfl
theorem fl_no {d : D} (h : den fl = some d) : False := by rw [hfl] at h; cases h
theorem interp_run {h : Tr Chunk} {k : SV → List (Nat × Option Chunk) → Nat → List Nat → R} {d : D} : ∀ (m : OpM) (rs : List Nat), den (interpR fl h k m rs) = some d →
  ∃ r ups nx rs', mrun h.get m = some (r, ups, nx, rs') ∧ den (k r ups nx (rs ++ rs')) = some d
 | .done r ups nx, rs, hm => ⟨r, ups, nx, [], rfl, by simpa [interpR] using hm⟩
 | .get x f, rs, hm => by
  simp only [interpR] at hm
  cases hx : h.get x with
  | none => simp only [hx] at hm; exact (fl_no hfl hm).elim
  | some c =>
   simp only [hx] at hm
   obtain ⟨r, ups, nx, rs', h1, h2⟩ := interp_run (f c) _ hm
   exact ⟨r, ups, nx, x :: rs', by simp [mrun, hx, h1], by simpa using h2⟩
 | .ite b t e, rs, hm => by
  simp only [interpR] at hm
  cases b
  · simp only [cond_false] at hm
    obtain ⟨r, ups, nx, rs', h1, h2⟩ := interp_run e _ hm
    exact ⟨r, ups, nx, rs', by simp [mrun, h1], h2⟩
  · simp only [cond_true] at hm
    obtain ⟨r, ups, nx, rs', h1, h2⟩ := interp_run t _ hm
    exact ⟨r, ups, nx, rs', by simp [mrun, h1], h2⟩
 | .fail, rs, hm => (fl_no hfl hm).elim
omit hfl in
theorem dstOk_N {s : St} {d : Option Nat} (h : dstOk s d = true) : dstN s.size d := by
 cases d with
 | none => trivial
 | some d => simp only [dstOk] at h; rw [Nat.blt_eq] at h; exact h
omit hfl in
structure Alike (s s1 : St) : Prop where
 tmp : s1.tmp = s.tmp
 hp : s1.hp = s.hp
 nx : s1.nx = s.nx
 size : s1.size = s.size
 m : s1.m = s.m
 dirty : s1.dirty = s.dirty
 rd : s1.rd = s.rd
omit hfl in
theorem Alike.ok {s s1 : St} (h : Alike s s1) (hs : StOk s) : StOk s1 :=
 ⟨by rw [h.size]; exact hs.size, by rw [h.nx]; exact hs.nx, by rw [h.size, h.tmp]; exact hs.out, by rw [h.hp, h.nx]; exact hs.dom, by rw [h.nx, h.m]; exact hs.m⟩
omit hfl in
theorem Alike.sim {ρ : Option Nat} {s s1 : St} {a : Act} {w : World} {Im : Nat → Prop} {θ : Th} (h : Alike s s1) (sim : Sim P ω ρ s a w Im θ) : Sim P ω ρ s1 a w Im θ :=
 ⟨h.ok sim.ok, by rw [h.size, h.tmp, h.hp]; exact sim.sf, by rw [h.nx, h.hp]; exact sim.fr, by rw [h.rd]; exact sim.rd⟩
omit hfl in
theorem Alike.later {s s1 : St} (h : Alike s s1) : Later s s1 := Later.of h.m h.nx h.hp h.dirty
theorem guard_run {all : List Oper} {s : St} {k : St → Bool → R} {o : Oper} {d : D} (hs : s.size < 16000) (h : den (guardR fl all s k o.guard) = some d) :
  ∃ s1 go, Alike s s1 ∧ wantedT all s.size s.tmp o = some go ∧ den (k s1 go) = some d := by
 unfold guardR at h
 unfold wantedT
 have self : Alike s s := ⟨rfl, rfl, rfl, rfl, rfl, rfl, rfl⟩
 cases hg : o.guard with
 | none =>
  rw [hg] at h
  exact ⟨s, true, self, rfl, h⟩
 | some p =>
  obtain ⟨j, want⟩ := p
  rw [hg] at h
  simp only [nth?_eq] at h
  simp only []
  cases hj : all[j]? with
  | none => simp only [hj] at h; exact (fl_no hfl h).elim
  | some oj =>
   simp only [hj] at h ⊢
   cases hd : oj.dst with
   | none => simp only [hd] at h; exact (fl_no hfl h).elim
   | some d =>
    simp only [hd] at h ⊢
    split at h
    · rename_i b hb
      cases hlt : Nat.blt d s.size with
      | false => rw [hlt] at h; exact (fl_no hfl h).elim
      | true =>
       rw [hlt] at h
       have hdn : d < s.size := by rw [Nat.blt_eq] at hlt; exact hlt
       simp only [hdn, if_true, hb]
       have ht : ∀ c, c = b → (s.put (some d) (.bool c)).tmp = s.tmp := by
        intro c hc
        rw [tmp_put (show dstN s.size (some d) from hdn) hs]
        funext t
        by_cases e : t = d
        · subst e; simp [updT, hb, hc]
        · simp [updT, e]
       cases b
       · simp only [cond_true, cond_false] at h
         exact ⟨_, !want, ⟨ht false rfl, rfl, rfl, rfl, rfl, rfl, rfl⟩, by cases want <;> rfl, h⟩
       · simp only [cond_true] at h
         exact ⟨_, want, ⟨ht true rfl, rfl, rfl, rfl, rfl, rfl, rfl⟩, by cases want <;> rfl, h⟩
    · rename_i hb
      cases hlt : Nat.blt d s.size with
      | false => rw [hlt] at h; exact (fl_no hfl h).elim
      | true =>
       rw [hlt] at h
       have hdn : d < s.size := by rw [Nat.blt_eq] at hlt; exact hlt
       simp only [hdn, if_true, hb]
       simp only [cond_true] at h
       exact ⟨s, false, self, rfl, h⟩
    · exact (fl_no hfl h).elim
end
/- Updating a state. -/
theorem addDirty_spec (m : Nat) : ∀ (l : List (Nat × Option Chunk)) (d : List Nat), (∀ x ∈ d, x ∈ addDirty m l d) ∧ (∀ x ∈ addDirty m l d, x ∈ d ∨ x < m) ∧ (∀ x, x < m → x ∈ l.map (·.1) → x ∈ addDirty m l d) := by
 intro l
 induction l with
 | nil => intro d; exact ⟨fun x hx => hx, fun x hx => .inl hx, fun x _ hx => by cases hx⟩
 | cons p l ih =>
  obtain ⟨y, c⟩ := p
  intro d
  simp only [addDirty]
  obtain ⟨i1, i2, i3⟩ := ih (bif Nat.blt y m && !memN y d then y :: d else d)
  have hcase : ∀ x, x ∈ (bif Nat.blt y m && !memN y d then y :: d else d) ↔ x ∈ d ∨ (x = y ∧ y < m) := by
   intro x
   cases h1 : Nat.blt y m with
   | false =>
    have : ¬ y < m := by intro hh; rw [← Nat.blt_eq] at hh; rw [hh] at h1; cases h1
    simp [this]
   | true =>
    have hy : y < m := by rw [Nat.blt_eq] at h1; exact h1
    cases h2 : memN y d with
    | true =>
     have := (memN_iff y d).1 h2
     simp only [Bool.not_true, Bool.and_false, cond_false]
     constructor
     · exact fun h => .inl h
     · rintro (h | ⟨rfl, _⟩)
       · exact h
       · exact this
    | false => simp [hy, or_comm]
  refine ⟨fun x hx => i1 x ((hcase x).2 (.inl hx)), fun x hx => ?_, fun x hxm hx => ?_⟩
  · rcases i2 x hx with h3 | h3
    · rcases (hcase x).1 h3 with h4 | ⟨rfl, h4⟩
      · exact .inl h4
      · exact .inr h4
    · exact .inr h3
  · simp only [List.map_cons, List.mem_cons] at hx
    rcases hx with rfl | hx
    · exact i1 x ((hcase x).2 (.inr ⟨rfl, hxm⟩))
    · exact i3 x hxm hx
theorem upd_later {s : St} {ups : List (Nat × Option Chunk)} {nx : Nat} (hle : s.nx ≤ nx) (hk : ∀ p ∈ ups, p.1 < 1000000) : Later s (s.upd ups nx) := by
 obtain ⟨d1, d2, d3⟩ := addDirty_spec s.m ups s.dirty
 refine ⟨rfl, hle, fun x hx => ?_, d1, d2⟩
 show (upsTr ups s.hp).get x = _ ∨ x ∈ addDirty s.m ups s.dirty
 rw [upsTr_get _ _ hk]
 by_cases hxk : x ∈ ups.map (·.1)
 · exact .inr (d3 x hx hxk)
 · left; rw [updF_not hxk]
theorem put_hp (s : St) (d : Option Nat) (v : SV) : (s.put d v).hp = s.hp := by cases d <;> rfl
theorem put_nx (s : St) (d : Option Nat) (v : SV) : (s.put d v).nx = s.nx := by cases d <;> rfl
theorem put_m (s : St) (d : Option Nat) (v : SV) : (s.put d v).m = s.m := by cases d <;> rfl
theorem put_sz (s : St) (d : Option Nat) (v : SV) : (s.put d v).size = s.size := by cases d <;> rfl
theorem put_dirty (s : St) (d : Option Nat) (v : SV) : (s.put d v).dirty = s.dirty := by cases d <;> rfl
theorem put_rd (s : St) (d : Option Nat) (v : SV) : (s.put d v).rd = s.rd := by cases d <;> rfl
theorem put_ok {s : St} (hs : StOk s) {d : Option Nat} (hd : dstN s.size d) (v : SV) : StOk (s.put d v) := by
 refine ⟨by rw [put_sz]; exact hs.size, by rw [put_nx]; exact hs.nx, ?_, by rw [put_hp, put_nx]; exact hs.dom, by rw [put_nx, put_m]; exact hs.m⟩
 rw [put_sz, tmp_put hd hs.size]
 intro t ht
 cases d with
 | none => simpa [updT] using hs.out t ht
 | some d =>
  have : t ≠ d := by intro e; subst e; simp only [dstN] at hd; omega
  simp [updT, this, hs.out t ht]
theorem upd_ok {s : St} (hs : StOk s) {ups : List (Nat × Option Chunk)} {nx : Nat} (hle : s.nx ≤ nx) (hnx : nx < 1000000) (hk : ∀ p ∈ ups, p.1 < nx) : StOk (s.upd ups nx) := by
 refine ⟨hs.size, hnx, hs.out, ?_, Nat.le_trans hs.m hle⟩
 show ∀ x c, (upsTr ups s.hp).get x = some c → x < nx
 rw [upsTr_get _ _ (fun p hp => by have := hk p hp; omega)]
 intro x c hx
 rcases updF_mem hx with h3 | ⟨_, h3⟩
 · exact hk _ h3
 · have := hs.dom x c h3; omega
theorem frame_later (s s' : St) (t : Tr SV) (n : Nat) (r : Option Nat) (h : Later s s') : Later s { s' with tm := t, size := n, rd := r } := ⟨h.m, h.nx, h.same, h.up, h.low⟩
theorem argsTr_get : ∀ (args : List SV) (i : Nat) (t : Tr SV) (j : Nat), i + args.length < 16000 → (argsTr args i t).get j = if i ≤ j ∧ j < i + args.length then args[j - i]? else t.get j
 | [], i, t, j, _ => by
  have : ¬ (i ≤ j ∧ j < i + ([] : List SV).length) := by simp only [List.length_nil]; omega
  rw [if_neg this]; rfl
 | v :: vs, i, t, j, hl => by
  simp only [argsTr, List.length_cons] at hl ⊢
  rw [argsTr_get vs (i + 1) _ j (by omega)]
  rw [Tr.get_set 14 t i (some v) j (by omega)]
  by_cases h1 : i + 1 ≤ j ∧ j < i + 1 + vs.length
  · rw [if_pos h1, if_pos (by omega)]
    have : j - i = (j - (i + 1)) + 1 := by omega
    rw [this, List.getElem?_cons_succ]
  · rw [if_neg h1]
    by_cases h2 : j = i
    · subst h2
      rw [if_pos rfl, if_pos (by omega)]
      simp
    · rw [if_neg h2, if_neg (by omega)]
theorem args_tmp {args : List SV} (h : args.length < 16000) (s : St) (t : Nat) : ({ s with tm := argsTr args 0 .lf } : St).tmp t = match args[t]? with
  | some v => v
  | none => .junk := by
 simp only [St.tmp]
 rw [argsTr_get args 0 .lf t (by omega)]
 by_cases ht : t < args.length
 · rw [if_pos (by omega)]
   simp [ht]
 · rw [if_neg (by omega)]
   simp only [Tr.get_lf]
   rw [List.getElem?_eq_none (by omega)]
theorem enter_ok {s : St} (hs : StOk s) {args : List SV} {n : Nat} (h1 : args.length ≤ n) (h2 : n < 16000) : StOk { s with tm := argsTr args 0 .lf, size := n, rd := none } := by
 refine ⟨h2, hs.nx, fun t ht => ?_, hs.dom, hs.m⟩
 have ht' : n ≤ t := ht
 show ({ s with tm := argsTr args 0 .lf } : St).tmp t = _
 rw [args_tmp (by omega), List.getElem?_eq_none (by omega)]
theorem enter_sim {s : St} (hs : StOk s) {args : List SV} {us : List Value} {n : Nat} (h1 : args.length ≤ n) (h2 : n < 16000) {w : World} {Im : Nat → Prop} {θ : Th} (hr : HRel P ω w Im θ s.hp.get) (hf : Fr s.nx θ s.hp.get) (hl : LRel P ω w Im θ args us) :
  Sim P ω none { s with tm := argsTr args 0 .lf, size := n, rd := none } { tmps := us.toArray ++ Array.replicate (n - us.toArray.size) undef, defers := [] } w Im θ := by
 have hul : us.length = args.length := hl.len.symm
 refine ⟨enter_ok hs h1 h2, ⟨by simp; omega, fun t ht => ?_, (enter_ok hs h1 h2).out, Mk.nil, hr⟩, hf, .inl ⟨rfl, rfl⟩⟩
 show VRel P ω w Im θ (({ s with tm := argsTr args 0 .lf } : St).tmp t) _
 rw [args_tmp (by omega)]
 by_cases ht2 : t < args.length
 · have e1 : args[t]? = some args[t] := by simp [ht2]
   rw [e1]
   refine hl.at_ t _ _ e1 ?_
   have ht3 : t < us.length := by omega
   simp [Array.getD_eq_getD_getElem?, Array.getElem?_append, ht3]
 · rw [List.getElem?_eq_none (by omega)]
   exact .junk
end Go.Am
/- The abstract machine: calls, rounds, regions, code: what is carried out. -/
namespace Go.Am
variable {P : Program} {ω : Nat → Value}
theorem lowB_spec {m : Nat} : ∀ (l : List Nat), lowB m l = true → ∀ x ∈ l, x < m
 | [], _, _, h => by cases h
 | y :: l, h, x, hx => by
  simp only [lowB, Bool.and_eq_true] at h
  rcases List.mem_cons.1 hx with rfl | hx
  · have := h.1; rwa [Nat.blt_eq] at this
  · exact lowB_spec l h.2 x hx
/- The results. -/
def resSem (tmps : Array Value) : ResultVar → Sem Value
 | .tmp t => pure (tmps.getD t undef)
 | .cell p t => do loadVar t (← asAddr (tmps.getD p undef))
theorem results_eq (f : Func) (tmps : Array Value) : results f tmps = (do
  let vs ← f.results.mapM (resSem tmps)
  pure (if h : vs.size = 1 then vs[0] else .tuple vs)) := by
 unfold results
 congr
theorem run_resultS {s : St} {a : Act} {w : World} {Im : Nat → Prop} {θ : Th} (hS : SimF P ω s.size s.tmp s.hp.get a w Im θ) {r : ResultVar} {v : SV} (h : resultS P s r = some v) :
  ∃ u, (resSem a.tmps r).run P w = .ok u w ∧ VRel P ω w Im θ v u := by
 cases r with
 | tmp t =>
  simp only [resultS] at h
  cases hb : Nat.blt t s.size with
  | false => simp [hb] at h
  | true =>
   simp only [hb, cond_true, Option.some.injEq] at h
   subst h
   exact ⟨_, rfl, hS.tm t (by rwa [Nat.blt_eq] at hb)⟩
 | cell p t =>
  simp only [resultS] at h
  have hp := hS.eval (.tmp p)
  simp only [evT, Act.eval] at hp
  split at h
  · rename_i x off hx
    rw [hx] at hp
    simp only [resSem]
    generalize a.tmps.getD p undef = u at hp ⊢
    cases hp with
    | ptr hθ =>
     split at h
     · rename_i T vs hg
       obtain ⟨b', cs, fr, h1, h2, h3, h4⟩ := hS.hp.at_ x _ hg
       rw [hθ] at h1
       simp only [Option.some.injEq, Prod.mk.injEq] at h1
       obtain ⟨rfl, _⟩ := h1
       obtain ⟨u, hru, hvu⟩ := run_loadVar_rel h2 h4 h
       exact ⟨u, by simp [asAddr, hru], hvu⟩
     · cases h
  · cases h
theorem run_resultsS {s : St} {a : Act} {w : World} {Im : Nat → Prop} {θ : Th} (hS : SimF P ω s.size s.tmp s.hp.get a w Im θ) : ∀ (rs : List ResultVar) (vs : List SV), resultsS P s rs = some vs →
  ∃ us, (rs.mapM (resSem a.tmps)).run P w = .ok us w ∧ LRel P ω w Im θ vs us
 | [], vs, h => by simp [resultsS] at h; subst h; exact ⟨[], rfl, rfl, fun i v u hv _ => by simp at hv⟩
 | r :: rs, vs, h => by
  simp only [resultsS] at h
  cases hr : resultS P s r with
  | none => simp [hr] at h
  | some v =>
   cases hrs : resultsS P s rs with
   | none => simp [hr, hrs] at h
   | some vs' =>
    simp only [hr, hrs, Option.some.injEq] at h
    subst h
    obtain ⟨u, h1, h2⟩ := run_resultS hS hr
    obtain ⟨us, h3, h4⟩ := run_resultsS hS rs vs' hrs
    refine ⟨u :: us, ?_, by simp [h4.len], fun i v' u' hv hu => ?_⟩
    · rw [List.mapM_cons]
      simp only [Sem.run_bind, h1, h3, Result.andThen_ok, Sem.run_pure]
    · cases i with
      | zero => simp at hv hu; subst hv; subst hu; exact h2
      | succ i => exact h4.at_ i v' u' (by simpa using hv) (by simpa using hu)
theorem run_results {s : St} {a : Act} {w : World} {Im : Nat → Prop} {θ : Th} {f : Func} (hS : SimF P ω s.size s.tmp s.hp.get a w Im θ) {vs : List SV} (h : resultsS P s f.results.toList = some vs) :
  ∃ u, (results f a.tmps).run P w = .ok u w ∧ VRel P ω w Im θ (oneOrTup vs) u := by
 obtain ⟨us, h1, h2⟩ := run_resultsS hS _ _ h
 rw [results_eq]
 simp only [Sem.run_bind, Array.mapM_eq_mapM_toList, Sem.run_map, h1, Result.andThen_ok, Sem.run_pure]
 have hlen := h2.len
 match vs, us, hlen, h2 with
 | [], [], _, h2 => exact ⟨_, rfl, .tup rfl (fun i v u hv _ => by simp at hv)⟩
 | [v], [u], _, h2 => exact ⟨_, rfl, h2.at_ 0 v u rfl rfl⟩
 | v1 :: v2 :: vs, u1 :: u2 :: us, hl, h2 =>
  refine ⟨.tuple (u1 :: u2 :: us).toArray, ?_, .tup (by simpa using hl) (fun i v u hv hu => h2.at_ i v u hv (by simpa using hu))⟩
  simp
theorem body_calls {f : FuncId} {fn : Func} {c : Code} (hf : P.funcs[f]? = some fn) (hb : fn.body = some c) {s0 s2 : St} {e : Ex} (he : ∀ id, e ≠ .exit id) (hc : Comes P c s0 e s2) {us : List Value} {w : World} {Im : Nat → Prop} {θ : Th}
  (sim : Sim P ω none s0 { tmps := us.toArray ++ Array.replicate (fn.ntmps - us.toArray.size) undef, defers := [] } w Im θ) {vs : List SV} (hvs : resultsS P s2 fn.results.toList = some vs) {ρ : Option Nat} {R : Ending → World → Prop}
  (hR : ∀ u w' Im' θ', HRel P ω w' Im' θ' s2.hp.get → Fr s2.nx θ' s2.hp.get → Ext (fun x => s0.nx ≤ x) s0.hp.get w Im θ s2.hp.get w' Im' θ' → VRel P ω w' Im' θ' (oneOrTup vs) u → R (.returned u) w') : CallsIn (FR ρ) 0 P f us.toArray w R := by
 suffices h : CallsIn (FR none) 0 P f us.toArray w R by
  cases ρ with
  | none => exact h
  | some l => exact h
 refine callsIn_of_wp_marks hf hb trivial (hc.wp none _ _ w Im θ sim (fun a' w' Im' θ' sim' hE hN => ?_)) rfl
 have key : LeavesInM (FR none) 0 P fn a'.tmps R a'.defers .returning w' := by
  obtain ⟨rs, h1, h2, h3⟩ := sim'.sf.df
  obtain ⟨rs', h4, h5⟩ := hN
  have hge : ∀ r ∈ rs, w.heap.size ≤ r := by
   intro r hr
   have : mark r ∈ a'.defers := by rw [h1]; exact List.mem_map.2 ⟨r, hr, rfl⟩
   rw [h4] at this
   simp only [List.append_nil, List.mem_map] at this
   obtain ⟨q, hq, e⟩ := this
   simp only [mark, Deferred.mk.injEq, Target.collected.injEq, and_true] at e
   rw [← e]; exact h5 q hq
  rw [h1]
  refine leaves_marks rs w' h2 (fun r hr => (h3 r hr).1) (fun w3 g1 g2 g3 g4 g5 => ?_)
  have hI : ∀ b, Im' b → Im' b ∧ w3.heap[b]? = w'.heap[b]? := fun b hb => ⟨hb, g2 b (fun hr => (h3 b hr).2.1 hb)⟩
  have hH : HRel P ω w3 Im' θ' s2.hp.get := by
   refine ⟨fun x c hx => (sim'.sf.hp.at_ x c hx).mono hI (fun _ _ h => h) rfl (fun b N hb => g2 b (fun hr => (h3 b hr).2.2 x c N hx hb)), sim'.sf.hp.inj, fun x c b N hx hb => ?_, fun b hb => by rw [g1]; exact sim'.sf.hp.im b hb⟩
   rw [g1]; exact sim'.sf.hp.own x c b N hx hb
  have hS : SimF P ω s2.size s2.tmp s2.hp.get { a' with defers := [] } w3 Im' θ' :=
   ⟨sim'.sf.size, fun t ht => (sim'.sf.tm t ht).mono hI (fun _ _ h => h), sim'.sf.out, Mk.nil, hH⟩
  obtain ⟨u, hu1, hu2⟩ := run_results (f := fn) hS hvs
  refine ⟨u, hu1, hR u w3 Im' θ' hH sim'.fr ?_ hu2⟩
  refine ⟨hE.thOld, hE.thUp, hE.imUp, by rw [g1]; exact hE.size, fun b hb hno => ?_, hE.imNew, hE.ownNew, g3.trans hE.os, g4.trans hE.output, g5.trans hE.tape⟩
  rw [g2 b (fun hr => by have := hge b hr; omega)]
  exact hE.keep b hb hno
 cases e with
 | normal => exact key
 | ret => exact key
 | exit id => exact absurd rfl (he id)
theorem frame_sim {ρ : Option Nat} {s s2 : St} {a : Act} {w w' : World} {Im Im' : Nat → Prop} {θ θ' : Th} (sim : Sim P ω ρ s a w Im θ) (hs2 : StOk s2) (_ : Later s s2) (hH : HRel P ω w' Im' θ' s2.hp.get) (hF : Fr s2.nx θ' s2.hp.get)
  {new : Nat → Prop} (hE : Ext new s.hp.get w Im θ s2.hp.get w' Im' θ') : Sim P ω ρ { s2 with tm := s.tm, size := s.size, rd := s.rd } a w' Im' θ' := by
 have hm := hs2.m
 refine ⟨⟨sim.ok.size, hs2.nx, sim.ok.out, hs2.dom, hs2.m⟩, ⟨sim.sf.size, fun t ht => hE.val sim.sf.hp (sim.sf.tm t ht), sim.sf.out, sim.sf.df.step hE, hH⟩, hF, ?_⟩
 rcases sim.rd with h | ⟨y, b, N, h1, h2, h3⟩
 · exact .inl h
 · exact .inr ⟨y, b, N, h1, hE.thUp _ _ h2, h3⟩
section
variable {R D : Type} {fl : R} {den : R → Option D} (hfl : den fl = none) {rec : Rcr R} (hrec : RcrOk P den rec)
include hfl hrec
theorem callIn_run {f : Nat} {args : List SV} {s : St} {k : SV → St → R} {d : D} (hs : StOk s) (h : den (callIn fl P rec f args s k) = some d) :
  ∃ r s', StOk s' ∧ Later s s' ∧ s'.tm = s.tm ∧ s'.size = s.size ∧ s'.rd = s.rd ∧ den (k r s') = some d ∧ (∃ fn, P.funcs[f]? = some fn ∧ (fn.name == "runtime.NumGoroutine") = false ∧ fn.body.isNone = false) ∧
   ∀ (ω : Nat → Value) (ρ : Option Nat) (a : Act) (w : World) (Im : Nat → Prop) (θ : Th) (us : List Value) (R' : Ending → World → Prop), Sim P ω ρ s a w Im θ → LRel P ω w Im θ args us →
    (∀ u w' Im' θ', Sim P ω ρ s' a w' Im' θ' → Ext (fun x => s.nx ≤ x) s.hp.get w Im θ s'.hp.get w' Im' θ' → VRel P ω w' Im' θ' r u → R' (.returned u) w') → CallsIn (FR ρ) 0 P f us.toArray w R' := by
 unfold callIn at h
 cases hf : P.funcs[f]? with
 | none => rw [hf] at h; exact (fl_no hfl h).elim
 | some fn =>
  rw [hf] at h
  simp only [] at h
  cases hb : fn.body with
  | none => rw [hb] at h; exact (fl_no hfl h).elim
  | some c =>
   rw [hb] at h
   simp only [] at h
   cases hc : Nat.ble args.length fn.ntmps && Nat.blt fn.ntmps 16000 && !(fn.name == "runtime.NumGoroutine") with
   | false => rw [hc] at h; exact (fl_no hfl h).elim
   | true =>
    rw [hc] at h
    simp only [cond_true] at h
    simp only [Bool.and_eq_true, Bool.not_eq_true'] at hc
    obtain ⟨⟨c1, c2⟩, c3⟩ := hc
    have h1 : args.length ≤ fn.ntmps := by rwa [Nat.ble_eq] at c1
    have h2 : fn.ntmps < 16000 := by rwa [Nat.blt_eq] at c2
    obtain ⟨e, s2, hs2, hcm, h3⟩ := hrec _ _ _ _ (enter_ok hs h1 h2) h
    have he : ∀ id, e ≠ .exit id := by
     rintro id rfl
     exact fl_no hfl h3
    have h4 : den (match resultsS P s2 fn.results.toList with
     | some vs => k (oneOrTup vs) { s2 with tm := s.tm, size := s.size, rd := s.rd }
     | none => fl) = some d := by
     cases e with
     | exit id => exact absurd rfl (he id)
     | normal => exact h3
     | ret => exact h3
    cases hvs : resultsS P s2 fn.results.toList with
    | none => rw [hvs] at h4; exact (fl_no hfl h4).elim
    | some vs =>
     rw [hvs] at h4
     simp only [] at h4
     have hl : Later s s2 := ⟨hcm.later.m, hcm.later.nx, hcm.later.same, hcm.later.up, hcm.later.low⟩
     refine ⟨oneOrTup vs, { s2 with tm := s.tm, size := s.size, rd := s.rd }, ⟨hs.size, hs2.nx, hs.out, hs2.dom, hs2.m⟩, frame_later s s2 _ _ _ hl, rfl, rfl, rfl, h4, ⟨fn, rfl, c3, by rw [hb]; rfl⟩, ?_⟩
     intro ω ρ a w Im θ us R' sim hl' hR
     refine body_calls hf hb he hcm (enter_sim hs h1 h2 sim.sf.hp sim.fr hl') hvs (fun u w' Im' θ' hH hF hE hv => ?_)
     exact hR u w' Im' θ' (frame_sim sim hs2 hl hH hF hE) hE hv
end
end Go.Am
/- The abstract machine: a round of a range over a function. -/
namespace Go.Am
variable {P : Program} {ω : Nat → Value}
theorem listOfTr_get (s : St) : ∀ (n i j : Nat), (listOfTr s n i)[j]? = if j < n then some (s.tmp (i + j)) else none
 | 0, i, j => by simp [listOfTr]
 | n + 1, i, j => by
  cases j with
  | zero => simp [listOfTr]
  | succ j =>
   simp only [listOfTr, List.getElem?_cons_succ]
   rw [listOfTr_get s n (i + 1) j]
   have : i + 1 + j = i + (j + 1) := by omega
   rw [this]
   simp only [Nat.add_lt_add_iff_right]
theorem listOfTr_len (s : St) : ∀ (n i : Nat), (listOfTr s n i).length = n
 | 0, _ => rfl
 | n + 1, i => by simp [listOfTr, listOfTr_len s n (i + 1)]
theorem list_rel {s : St} {a : Act} {w : World} {Im : Nat → Prop} {θ : Th} {h : HpF} (hS : SimF P ω s.size s.tmp h a w Im θ) : LRel P ω w Im θ (listOfTr s s.size 0) a.tmps.toList := by
 refine ⟨by rw [listOfTr_len]; simp [hS.size], fun i v u hv hu => ?_⟩
 rw [listOfTr_get] at hv
 split at hv
 · rename_i hi
   simp only [Nat.zero_add, Option.some.injEq] at hv
   subst hv
   have := hS.tm i hi
   have e : a.tmps.getD i undef = u := by
    simp only [Array.getElem?_toList] at hu
    simp [Array.getD_eq_getD_getElem?, hu]
   rwa [e] at this
 · cases hv
def setL : List Nat → List Value → Array Value → Array Value
 | p :: ps, u :: us, a => setL ps us (a.setIfInBounds p u)
 | _, _, a => a
theorem setL_eq (ps : Array Nat) (us : Array Value) (a : Array Value) : (ps.zip us).foldl (fun tmps (t, a) => tmps.setIfInBounds t a) a = setL ps.toList us.toList a := by
 rw [← Array.foldl_toList]
 rw [Array.toList_zip]
 generalize ps.toList = l
 generalize us.toList = m
 induction l generalizing m a with
 | nil => simp [setL]
 | cons p l ih =>
  cases m with
  | nil => simp [setL]
  | cons u m => simp [setL, ih]
theorem setPs_rel {n : Nat} (hn : n < 16000) {w : World} {Im : Nat → Prop} {θ : Th} : ∀ (ps : List Nat) (vs : List SV) (us : List Value) (t : Tr SV) (a : Array Value), lowB n ps = true → ps.length = vs.length → LRel P ω w Im θ vs us →
  a.size = n → (∀ j, j < n → VRel P ω w Im θ (match t.get j with
   | some v => v
   | none => .junk) (a.getD j undef)) → (∀ j, n ≤ j → t.get j = none) →
  (setL ps us a).size = n ∧ (∀ j, j < n → VRel P ω w Im θ (match (setPs ps vs t).get j with
   | some v => v
   | none => .junk) ((setL ps us a).getD j undef)) ∧ ∀ j, n ≤ j → (setPs ps vs t).get j = none
 | [], vs, us, t, a, _, _, _, hs, h1, h2 => by
  have e1 : setPs [] vs t = t := by cases vs <;> rfl
  have e2 : setL [] us a = a := by cases us <;> rfl
  rw [e1, e2]
  exact ⟨hs, h1, h2⟩
 | p :: ps, [], us, t, a, _, hlen, _, _, _, _ => by simp at hlen
 | p :: ps, v :: vs, us, t, a, hlow, hlen, hl, hs, h1, h2 => by
  cases us with
  | nil => have := hl.len; simp at this
  | cons u us =>
   simp only [lowB, Bool.and_eq_true] at hlow
   have hp : p < n := by have := hlow.1; rwa [Nat.blt_eq] at this
   simp only [setPs, setL]
   refine setPs_rel hn ps vs us _ _ hlow.2 (by simpa using hlen) ⟨by have := hl.len; simpa using this, fun i x y hx hy => hl.at_ (i + 1) x y (by simpa using hx) (by simpa using hy)⟩ (by simpa using hs) (fun j hj => ?_) (fun j hj => ?_)
   · rw [Tr.get_set 14 t p (some v) j (by omega)]
     by_cases e : j = p
     · subst e
       have : j < a.size := by omega
       simp only [if_pos, Array.getD_eq_getD_getElem?, Array.getElem?_setIfInBounds, this, Option.getD_some]
       exact hl.at_ 0 v u rfl rfl
     · have := h1 j hj
       rw [if_neg e]
       have e2 : (a.setIfInBounds p u).getD j undef = a.getD j undef := by
        simp [Array.getD_eq_getD_getElem?, Ne.symm e]
       rw [e2]; exact this
   · rw [Tr.get_set 14 t p (some v) j (by omega), if_neg (by omega)]
     exact h2 j hj
theorem round_sim {s : St} (hs : StOk s) {x b N : Nat} {w : World} {Im : Nat → Prop} {θ : Th} (hr : HRel P ω w Im θ s.hp.get) (hf : Fr s.nx θ s.hp.get) (hθ : θ x = some (b, N)) {vs args : List SV} {us : List Value} {tmps : Array Value} {ps : Array Nat}
  (h1 : ps.size = args.length) (h2 : lowB vs.length ps.toList = true) (h3 : vs.length < 16000) (hv : LRel P ω w Im θ vs tmps.toList) (hl : LRel P ω w Im θ args us) :
  StOk { s with tm := setPs ps.toList args (argsTr vs 0 .lf), size := vs.length, rd := some x } ∧
  Sim P ω (some b) { s with tm := setPs ps.toList args (argsTr vs 0 .lf), size := vs.length, rd := some x } { tmps := (ps.zip us.toArray).foldl (fun tmps (t, a) => tmps.setIfInBounds t a) tmps, defers := [] } w Im θ := by
 have hsz : tmps.size = vs.length := by have := hv.len; simp at this; omega
 obtain ⟨k1, k2, k3⟩ := setPs_rel (P := P) h3 ps.toList args us (argsTr vs 0 .lf) tmps h2 (by simpa using h1) hl hsz (fun j hj => by
  rw [argsTr_get vs 0 .lf j (by omega), if_pos (by omega)]
  have e : vs[j - 0]? = some vs[j] := by simp [hj]
  rw [e]
  refine hv.at_ j _ _ (by simp [hj]) ?_
  have : j < tmps.size := by omega
  simp [Array.getD_eq_getD_getElem?, this]) (fun j hj => by
  rw [argsTr_get vs 0 .lf j (by omega), if_neg (by omega)]; rfl)
 have hok : StOk { s with tm := setPs ps.toList args (argsTr vs 0 .lf), size := vs.length, rd := some x } := by
  refine ⟨h3, hs.nx, fun t ht => ?_, hs.dom, hs.m⟩
  have ht' : vs.length ≤ t := ht
  simp only [St.tmp]
  rw [k3 t ht']
 refine ⟨hok, hok, ⟨?_, ?_, hok.out, Mk.nil, hr⟩, hf, .inr ⟨x, b, N, rfl, hθ, rfl⟩⟩
 · show ((ps.zip us.toArray).foldl (fun tmps (t, a) => tmps.setIfInBounds t a) tmps).size = _
   rw [setL_eq]; exact k1
 · intro t ht
   show VRel P ω w Im θ _ (((ps.zip us.toArray).foldl (fun tmps (t, a) => tmps.setIfInBounds t a) tmps).getD t undef)
   rw [setL_eq]
   exact k2 t ht
end Go.Am
/- The abstract machine: a round of a range over a function; operations one after the other. -/
namespace Go.Am
variable {P : Program} {ω : Nat → Value}
theorem setPs_out {n : Nat} (hn : n < 16000) : ∀ (ps : List Nat) (vs : List SV) (t : Tr SV), lowB n ps = true → (∀ j, n ≤ j → t.get j = none) → ∀ j, n ≤ j → (setPs ps vs t).get j = none
 | [], vs, t, _, h => by
  have e1 : setPs [] vs t = t := by cases vs <;> rfl
  rw [e1]; exact h
 | p :: ps, [], t, _, h => h
 | p :: ps, v :: vs, t, hl, h => by
  simp only [lowB, Bool.and_eq_true] at hl
  have hp : p < n := by have := hl.1; rwa [Nat.blt_eq] at this
  simp only [setPs]
  refine setPs_out hn ps vs _ hl.2 (fun j hj => ?_)
  rw [Tr.get_set 14 t p (some v) j (by omega), if_neg (by omega)]
  exact h j hj
theorem round_ok {s : St} (hs : StOk s) {x : Nat} {vs args : List SV} {ps : List Nat} (h2 : lowB vs.length ps = true) (h3 : vs.length < 16000) : StOk { s with tm := setPs ps args (argsTr vs 0 .lf), size := vs.length, rd := some x } := by
 refine ⟨h3, hs.nx, fun t ht => ?_, hs.dom, hs.m⟩
 have ht' : vs.length ≤ t := ht
 simp only [St.tmp]
 rw [setPs_out h3 ps args _ h2 (fun j hj => by rw [argsTr_get vs 0 .lf j (by omega), if_neg (by omega)]; rfl) t ht']
theorem turn_ok {s : St} {x : Nat} {c : Chunk} (c' : Option Chunk) (hx : s.hp.get x = some c) (hs : StOk s) :
  StOk (s.upd [(x, c')] s.nx) ∧ Later s (s.upd [(x, c')] s.nx) ∧ (s.upd [(x, c')] s.nx).hp.get = updF [(x, c')] s.hp.get := by
 have hlt := hs.dom x _ hx
 have hk : ∀ p ∈ [(x, c')], p.1 < s.nx := by
  intro p hp
  simp only [List.mem_singleton] at hp
  subst hp; exact hlt
 exact ⟨upd_ok hs (Nat.le_refl _) hs.nx hk, upd_later (Nat.le_refl _) (fun p hp => by have := hk p hp; have := hs.nx; omega), upsTr_get _ _ (fun p hp => by have := hk p hp; have := hs.nx; omega)⟩
theorem Sim.turn {ρ : Option Nat} {s : St} {a : Act} {w w' : World} {Im : Nat → Prop} {θ : Th} (sim : Sim P ω ρ s a w Im θ) {x : Nat} {c : Chunk} {c' : Option Chunk} (hx : s.hp.get x = some c)
  (hE : Ext (fun _ => False) s.hp.get w Im θ (updF [(x, c')] s.hp.get) w' Im θ) (hH : HRel P ω w' Im θ (updF [(x, c')] s.hp.get)) : Sim P ω ρ (s.upd [(x, c')] s.nx) a w' Im θ ∧ Ext (fun x => s.nx ≤ x) s.hp.get w Im θ (s.upd [(x, c')] s.nx).hp.get w' Im θ := by
 obtain ⟨h1, h2, h3⟩ := turn_ok c' hx sim.ok
 have hlt := sim.ok.dom x _ hx
 refine ⟨⟨h1, ?_, ?_, sim.rd⟩, by rw [h3]; exact hE.mono (fun _ h => h.elim)⟩
 · have := sim.sf.step (dst := none) trivial hE (VRel'.junk (u := undef)) hH
   rw [h3]
   exact this
 · rw [h3]
   intro y hy
   have hy' : s.nx ≤ y := hy
   obtain ⟨g1, g2⟩ := sim.fr y hy'
   refine ⟨g1, ?_⟩
   have : ¬ y = x := by omega
   simp [updF, this, g2]
section
variable {R D : Type} {fl : R} {den : R → Option D} (hfl : den fl = none) {rec : Rcr R} (hrec : RcrOk P den rec)
include hfl hrec
theorem roundIn_run {x : Nat} {args : List SV} {s : St} {k : Bool → St → R} {d : D} (hs : StOk s) (h : den (roundIn fl rec x args s k) = some d) :
  ∃ r s', StOk s' ∧ Later s s' ∧ s'.tm = s.tm ∧ s'.size = s.size ∧ s'.rd = s.rd ∧ den (k r s') = some d ∧
   ∀ (ω : Nat → Value) (ρ : Option Nat) (a : Act) (w : World) (Im : Nat → Prop) (θ : Th) (us : List Value) (b N : Nat) (R' : Ending → World → Prop), Sim P ω ρ s a w Im θ → LRel P ω w Im θ args us → θ x = some (b, N) →
    (∀ w' Im' θ', Sim P ω ρ s' a w' Im' θ' → Ext (fun x => s.nx ≤ x) s.hp.get w Im θ s'.hp.get w' Im' θ' → R' (.returned (.bool r)) w') →
    ∃ lp : Loop, w.heap[b]? = some (.loop lp) ∧ us.length = lp.params.size ∧ RoundIn (FR ρ) 0 P b lp.fn ((lp.params.zip us.toArray).foldl (fun tmps (t, a) => tmps.setIfInBounds t a) lp.tmps) lp.assign lp.body w R' := by
 unfold roundIn at h
 split at h
 case h_2 => exact (fl_no hfl h).elim
 rename_i vs ps asg bdy hx
 cases hc : Nat.beq ps.size args.length && lowB vs.length ps.toList && Nat.blt vs.length 16000 with
 | false => rw [hc] at h; exact (fl_no hfl h).elim
 | true =>
  rw [hc] at h
  simp only [cond_true] at h
  simp only [Bool.and_eq_true] at hc
  obtain ⟨⟨c1, c2⟩, c3⟩ := hc
  have h1 : ps.size = args.length := Nat.eq_of_beq_eq_true c1
  have h3 : vs.length < 16000 := by rwa [Nat.blt_eq] at c3
  obtain ⟨e, s1, hs1, hcA, h4⟩ := hrec _ _ _ _ (round_ok hs (x := x) (args := args) c2 h3) h
  cases e with
  | exit id => exact (fl_no hfl h4).elim
  | ret => exact (fl_no hfl h4).elim
  | normal =>
   simp only [] at h4
   split at h4
   case h_2 => exact (fl_no hfl h4).elim
   rename_i vs1 ps1 asg1 bdy1 hx1
   obtain ⟨o1, l1, g1⟩ := turn_ok (some (.loopr .busy vs1 ps1 asg1 bdy1)) hx1 hs1
   obtain ⟨e2, s2, hs2, hcB, h5⟩ := hrec _ _ _ _ o1 h4
   split at h5
   case h_2 => exact (fl_no hfl h5).elim
   rename_i vs2 ps2 asg2 bdy2 hx2
   obtain ⟨o2, l2, g2⟩ := turn_ok (some (.loopr (endSt e2) vs2 ps2 asg2 bdy2)) hx2 hs2
   have lA : Later s s1 := ⟨hcA.later.m, hcA.later.nx, hcA.later.same, hcA.later.up, hcA.later.low⟩
   have lAll : Later s (s2.upd [(x, some (.loopr (endSt e2) vs2 ps2 asg2 bdy2))] s2.nx) := ((lA.trans l1).trans hcB.later).trans l2
   refine ⟨isNormal e2, { s2.upd [(x, some (.loopr (endSt e2) vs2 ps2 asg2 bdy2))] s2.nx with tm := s.tm, size := s.size, rd := s.rd }, ⟨hs.size, o2.nx, hs.out, o2.dom, o2.m⟩, frame_later s _ _ _ _ lAll, rfl, rfl, rfl, h5, ?_⟩
   intro ω ρ a w Im θ us b N R' sim hl hθ hR
   obtain ⟨lp, hw, e1, e2', e3, e4, hv, -⟩ := put_loop (st' := .busy) sim.sf.hp hx hθ
   refine ⟨lp, hw, by rw [e1, h1, hl.len], ?_⟩
   rw [e1, e2', e3]
   have simA := (round_sim hs sim.sf.hp sim.fr hθ h1 c2 h3 hv hl).2
   refine roundIn_of_wpIn (FR_fn ρ _) ?_
   show asg.wpIn (FR (some b)) 0 P _ _ w
   refine hcA.wp (some b) _ _ w Im θ simA (fun a1 w1 Im1 θ1 sim1 hE1 _ => ?_)
   have hθ1 : θ1 x = some (b, N) := hE1.thUp _ _ hθ
   obtain ⟨lp1, hw1, -, -, -, f4, -, hput1⟩ := put_loop (st' := .busy) sim1.sf.hp hx1 hθ1
   obtain ⟨hEb, hHb⟩ := hput1 .busy none ⟨rfl, rfl⟩
   have hlp : ({ lp1 with state := .busy, pending := none } : Loop) = { lp1 with state := .busy } := by
    have := f4.2
    rw [← this]
   rw [hlp] at hEb hHb
   obtain ⟨simB, hEB⟩ := sim1.turn hx1 hEb hHb
   refine ⟨_, run_beginRound hw1 f4.1, ?_⟩
   show bdy.wpIn (FR (some b)) 0 P _ _ _
   refine hcB.wp (some b) _ _ _ _ _ simB (fun a2 w2 Im2 θ2 sim2 hE2 _ => ?_)
   have hθ2 : θ2 x = some (b, N) := hE2.thUp _ _ hθ1
   obtain ⟨lp2, hw2, -, -, -, -, -, hput2⟩ := put_loop (st' := endSt e2) sim2.sf.hp hx2 hθ2
   have fin : ∀ (st : LoopState) (pe : Option Code), stRel (endSt e2) st pe → R' (.returned (.bool (isNormal e2))) (w2.putObj b (.loop { lp2 with state := st, pending := pe })) := by
    intro st pe hst
    obtain ⟨hEc, hHc⟩ := hput2 st pe hst
    obtain ⟨simC, hEC⟩ := sim2.turn hx2 hEc hHc
    have hE : Ext (fun x => s.nx ≤ x) s.hp.get w Im θ (s2.upd [(x, some (.loopr (endSt e2) vs2 ps2 asg2 bdy2))] s2.nx).hp.get (w2.putObj b (.loop { lp2 with state := st, pending := pe })) Im2 θ2 := by
     have m1 : ∀ y, s1.nx ≤ y → s.nx ≤ y := fun y hy => Nat.le_trans lA.nx hy
     have m2 : ∀ y, s2.nx ≤ y → s.nx ≤ y := fun y hy => Nat.le_trans lAll.nx hy
     exact ((hE1.trans (hEB.mono m1)).trans (hE2.mono m1)).trans (hEC.mono m2)
    exact hR _ Im2 θ2 (frame_sim sim o2 lAll simC.sf.hp simC.fr hE) hE
   cases e2 with
   | normal =>
    exact ⟨_, _, run_endRound none hw2, fin .ready none ⟨rfl, rfl⟩⟩
   | ret =>
    exact ⟨_, _, run_endRound (some .ret) hw2, fin .done (some .ret) ⟨rfl, rfl, by simp⟩⟩
   | exit id =>
    exact ⟨_, _, run_endRound (some (.exit id)) hw2, fin .done (some (.exit id)) ⟨rfl, rfl, by simp⟩⟩
end
end Go.Am
/- The abstract machine: operations one after the other, regions, code. -/
namespace Go.Am
variable {P : Program} {ω : Nat → Value}
theorem args_rel {s : St} {a : Act} {w : World} {Im : Nat → Prop} {θ : Th} (hS : SimF P ω s.size s.tmp s.hp.get a w Im θ) (l : Array Operand) : LRel P ω w Im θ (l.toList.map s.ev) (l.map a.eval).toList := by
 refine ⟨by simp, fun i v u hv hu => ?_⟩
 simp only [List.getElem?_map, Array.getElem?_toList, Option.map_eq_some_iff] at hv
 obtain ⟨c, hc, rfl⟩ := hv
 simp only [Array.toList_map, List.getElem?_map, Array.getElem?_toList, hc, Option.map_some, Option.some.injEq] at hu
 subst hu
 rw [evT_ev]
 exact hS.eval c
theorem put_sim {ρ : Option Nat} {s : St} {a : Act} {w : World} {Im : Nat → Prop} {θ : Th} (sim : Sim P ω ρ s a w Im θ) {dst : Option Nat} (hd : dstN s.size dst) {r : SV} {v : Value} (hv : VRel P ω w Im θ r v) : Sim P ω ρ (s.put dst r) (a.put dst v) w Im θ := by
 refine ⟨put_ok sim.ok hd r, ?_, by rw [put_nx, put_hp]; exact sim.fr, by rw [put_rd]; exact sim.rd⟩
 rw [put_sz, put_hp, tmp_put hd sim.ok.size]
 exact sim.sf.step hd (Ext.refl (fun _ => False)) hv sim.sf.hp
theorem put_later (s : St) (d : Option Nat) (v : SV) : Later s (s.put d v) := Later.of (put_m s d v) (put_nx s d v) (put_hp s d v) (put_dirty s d v)
section
variable {R D : Type} {fl : R} {den : R → Option D} (hfl : den fl = none) {rec : Rcr R} (hrec : RcrOk P den rec) {κ : Nat → Option CSumm} {ι : Nat → Bool} (hκ : KOk P κ)
include hfl hrec hκ
theorem step_run {o : Oper} {s : St} {k : St → R} {d : D} (hs : StOk s) (hd : dstN s.size o.dst) (h : den (stepR fl P κ ι rec o s k) = some d) :
  ∃ s', StOk s' ∧ Later s s' ∧ s'.size = s.size ∧ s'.rd = s.rd ∧ den (k s') = some d ∧
   ∀ (ω : Nat → Value) (ρ : Option Nat) (K : Act → World → Prop) (Q : Exit → Act → World → Prop) (a : Act) (w : World) (Im : Nat → Prop) (θ : Th), Sim P ω ρ s a w Im θ → After P ω ρ s s' a w Im θ K → o.wpIn (FR ρ) 0 P a w K Q := by
 unfold stepR at h
 split at h
 · -- plain
   obtain ⟨r, ups, nx, rs', hm, h2⟩ := interp_run hfl _ _ h
   cases hb : Nat.blt nx 1000000 with
   | false => rw [hb] at h2; exact (fl_no hfl h2).elim
   | true =>
    rw [hb] at h2
    simp only [cond_true] at h2
    have hnx : nx < 1000000 := by rw [Nat.blt_eq] at hb; exact hb
    rw [evT_ev] at hm
    obtain ⟨hle, hkeys⟩ := opM_wf hm
    have hk : ∀ p ∈ ups, p.1 < nx := by
     intro p hp
     rcases hkeys p hp with h3 | h3
     · obtain ⟨c, hc⟩ := mrun_reads _ _ hm p.1 h3
       have := hs.dom _ c hc; omega
     · exact h3.2
    have hk2 : ∀ p ∈ ups, p.1 < 1000000 := fun p hp => by have := hk p hp; omega
    have ou := upd_ok hs hle hnx hk
    have hhp : (s.upd ups nx).hp.get = updF ups s.hp.get := upsTr_get _ _ hk2
    refine ⟨_, put_ok ou hd r, (upd_later hle hk2).trans (put_later _ _ _), by rw [put_sz]; rfl, by rw [put_rd]; rfl, h2, ?_⟩
    intro ω ρ K Q a w Im θ sim hA
    refine op_good hκ sim.sf.hp (fun x _ => sim.sf.eval x) (fun x h1 _ => sim.fr x h1) hm ρ K Q (fun v w' Im' θ' hE hv hH => ?_)
    have hE' : Ext (fun x => s.nx ≤ x) s.hp.get w Im θ (updF ups s.hp.get) w' Im' θ' := hE.mono (fun x hx => hx.1)
    refine hA _ w' Im' θ' ⟨put_ok ou hd r, ?_, ?_, ?_⟩ ?_ (New.refl (put_defers _ _ _))
    · rw [put_sz, put_hp, hhp, tmp_put (s := s.upd ups nx) hd ou.size]
      exact sim.sf.step hd hE hv hH
    · rw [put_nx, put_hp, hhp]
      exact sim.fr.step hle hkeys (mrun_reads _ _ hm) hE
    · rw [put_rd]
      rcases sim.rd with g | ⟨y, b, N, g1, g2, g3⟩
      · exact .inl g
      · exact .inr ⟨y, b, N, g1, hE.thUp _ _ g2, g3⟩
    · rw [put_hp, hhp]; exact hE'
 · -- a call
   rename_i f args hck
   obtain ⟨r, s1, hs1, hl1, e1, e2, e3, h2, ⟨fn, hfn, hn1, hn2⟩, hw⟩ := callIn_run hfl hrec hs h
   have hd1 : dstN s1.size o.dst := by rw [e2]; exact hd
   refine ⟨_, put_ok hs1 hd1 r, hl1.trans (put_later _ _ _), by rw [put_sz, e2], by rw [put_rd, e3], h2, ?_⟩
   intro ω ρ K Q a w Im θ sim hA
   obtain ⟨dst, op, type, pos, after, guard⟩ := o
   unfold callKind at hck
   simp only at hck hd hA hd1
   split at hck
   case h_2 => cases hck
   rename_i c
   split at hck
   case h_3 => cases hck
   case h_2 =>
    rename_i ro m hcal
    split at hck
    case h_2 => cases hck
    rename_i t v hev
    split at hck
    case h_2 => cases hck
    rename_i g hmeth
    cases hi : ι g with
    | false => rw [hi] at hck; cases hck
    | true =>
     rw [hi] at hck
     simp only [cond_true, CallKind.fn.injEq] at hck
     obtain ⟨rfl, rfl⟩ := hck
     obtain ⟨callee, cargs, argTypes⟩ := c
     simp only at hcal
     subst hcal
     have hf := sim.sf.eval ro
     rw [← evT_ev, hev] at hf
     generalize hu : a.eval ro = u at hf
     cases hf with
     | iface hv =>
      rename_i u'
      have hl : LRel P ω w Im θ (v :: cargs.toList.map s.ev) (u' :: (cargs.map a.eval).toList) := by
       refine ⟨by simp, fun i x y hx hy => ?_⟩
       cases i with
       | zero => cases hx; cases hy; exact hv
       | succ i => exact (args_rel sim.sf cargs).at_ i x y hx hy
      have hrun : (execOp a.eval { dst := dst, op := .call { callee := .invoke ro m, args := cargs, argTypes := argTypes }, type := type, pos := pos, after := after, guard := guard }).run P w = .ok (.enter g (u' :: (cargs.map a.eval).toList).toArray) w := by
       have e : (u' :: (cargs.map a.eval).toList).toArray = #[u'] ++ cargs.map a.eval := by
        apply Array.ext'
        simp
       rw [e]
       have hi := run_invoke hmeth hfn hn1 hn2 u' (cargs.map a.eval) w
       simp only [execOp, resolve, hu, pure_bind]
       exact hi
      refine ⟨fun f _ => FR_fn ρ f, ?_⟩
      rw [Oper.semAt_eq _ _ _ (fun c hc => by cases hc), hrun, Oper.uponIn_enter]
      refine ⟨FR_depth1 ρ, ?_⟩
      refine hw _ ρ a w Im θ _ _ sim hl (fun v w' Im' θ' sim' hE hv => ?_)
      exact hA _ w' Im' θ' (put_sim sim' hd1 hv) (by rw [put_hp]; exact hE) (New.refl (put_defers _ _ _))
   rename_i fo hcal
   split at hck
   case h_1 => cases hck
   case h_3 => cases hck
   rename_i g first caps hev
   cases hi : ι g with
   | false => rw [hi] at hck; cases hck
   | true =>
    rw [hi] at hck
    simp only [cond_true, CallKind.fn.injEq] at hck
    obtain ⟨rfl, rfl⟩ := hck
    obtain ⟨callee, cargs, argTypes⟩ := c
    simp only at hcal
    subst hcal
    have hf := sim.sf.eval fo
    rw [← evT_ev, hev] at hf
    generalize hu : a.eval fo = u at hf
    cases hf with
    | fn h1 h2 h3 h4 =>
     rename_i us vs
     have hl : LRel P ω w Im θ (first ++ (cargs.toList.map s.ev ++ caps)) (us.toList ++ ((cargs.map a.eval).toList ++ vs.toList)) :=
      LRel.append ⟨by simpa using h1, fun i v u hv hu => h3 i v u hv (by simpa using hu)⟩ (LRel.append (args_rel sim.sf cargs) ⟨by simpa using h2, fun i v u hv hu => h4 i v u hv (by simpa using hu)⟩)
     have hrun : (execOp a.eval { dst := dst, op := .call { callee := .value fo, args := cargs, argTypes := argTypes }, type := type, pos := pos, after := after, guard := guard }).run P w = .ok (.enter g (us.toList ++ ((cargs.map a.eval).toList ++ vs.toList)).toArray) w := by
      have e : (us.toList ++ ((cargs.map a.eval).toList ++ vs.toList)).toArray = us ++ cargs.map a.eval ++ vs := by
       apply Array.ext'
       simp
      rw [e]
      have hn1' : ¬ fn.name = "runtime.NumGoroutine" := by simpa using hn1
      have hn2' : ¬ fn.body = none := by intro hh; simp [hh] at hn2
      simp [execOp, resolve, hu, Deferred.ofValue, invoke, callFunc, hfn, hn1', hn2']
     refine ⟨fun f _ => FR_fn ρ f, ?_⟩
     rw [Oper.semAt_eq _ _ _ (fun c hc => by cases hc), hrun, Oper.uponIn_enter]
     refine ⟨FR_depth1 ρ, ?_⟩
     refine hw _ ρ a w Im θ _ _ sim hl (fun v w' Im' θ' sim' hE hv => ?_)
     exact hA _ w' Im' θ' (put_sim sim' hd1 hv) (by rw [put_hp]; exact hE) (New.refl (put_defers _ _ _))
 · -- a round
   rename_i x args hck
   obtain ⟨r, s1, hs1, hl1, e1, e2, e3, h2, hw⟩ := roundIn_run hfl hrec hs h
   have hd1 : dstN s1.size o.dst := by rw [e2]; exact hd
   refine ⟨_, put_ok hs1 hd1 (.bool r), hl1.trans (put_later _ _ _), by rw [put_sz, e2], by rw [put_rd, e3], h2, ?_⟩
   intro ω ρ K Q a w Im θ sim hA
   obtain ⟨dst, op, type, pos, after, guard⟩ := o
   unfold callKind at hck
   simp only at hck hd hA hd1
   split at hck
   case h_2 => cases hck
   rename_i c
   split at hck
   case h_3 => cases hck
   case h_2 =>
    split at hck
    case h_2 => cases hck
    split at hck
    case h_2 => cases hck
    rename_i g hmeth
    cases hi : ι g <;> rw [hi] at hck <;> cases hck
   rename_i fo hcal
   split at hck
   case h_3 => cases hck
   case h_2 =>
    rename_i g first caps hev
    cases hi : ι g <;> rw [hi] at hck <;> cases hck
   rename_i x' hev
   simp only [CallKind.yl.injEq] at hck
   obtain ⟨rfl, rfl⟩ := hck
   obtain ⟨callee, cargs, argTypes⟩ := c
   simp only at hcal
   subst hcal
   have hf := sim.sf.eval fo
   rw [← evT_ev, hev] at hf
   generalize hu : a.eval fo = u at hf
   cases hf with
   | yl hθ =>
    rename_i b N
    obtain ⟨lp, hlp, hsz, hround⟩ := hw _ ρ a w Im θ (cargs.map a.eval).toList b N (fun
     | .returned v, w'' => K (a.put dst v) w''
     | .panicked chain, w'' => Q (.panic chain) a w''
     | .outgrown, _ => LetsOut Q) sim (args_rel sim.sf cargs) hθ (fun w' Im' θ' sim' hE => hA _ w' Im' θ' (put_sim sim' hd1 .bool) (by rw [put_hp]; exact hE) (New.refl (put_defers _ _ _)))
    have hrun : (execOp a.eval { dst := dst, op := .call { callee := .value fo, args := cargs, argTypes := argTypes }, type := type, pos := pos, after := after, guard := guard }).run P w =
      .ok (.round b lp.fn ((lp.params.zip (cargs.map a.eval)).foldl (fun tmps (t, a) => tmps.setIfInBounds t a) lp.tmps) lp.assign lp.body) w := by
     have hy := run_yield (P := P) (args := cargs.map a.eval) hlp (by simpa using hsz)
     simp [execOp, resolve, hu, Deferred.ofValue, invoke, hy]
    refine ⟨fun f _ => FR_fn ρ f, ?_⟩
    rw [Oper.semAt_eq _ _ _ (fun c hc => by cases hc), hrun, Oper.uponIn_round]
    refine ⟨FR_depth1 ρ, ?_⟩
    have e : ((cargs.map a.eval).toList).toArray = cargs.map a.eval := Array.toArray_toList ..
    rw [e] at hround
    exact hround
end
end Go.Am
/- The abstract machine: regions and code: what is carried out is right. -/
namespace Go.Am
variable {P : Program} {ω : Nat → Value}
section
variable {R D : Type} {fl : R} {den : R → Option D} (hfl : den fl = none) {rec : Rcr R} (hrec : RcrOk P den rec) {κ : Nat → Option CSumm} {ι : Nat → Bool} (hκ : KOk P κ)
include hfl hrec hκ
theorem opsQ_run {all : List Oper} {k : St → R} {d : D} : ∀ (os : List Oper) (i : Nat) (s : St), all.drop i = os → StOk s → den (opsQ fl P κ ι rec all k os s) = some d →
  ∃ s', StOk s' ∧ Later s s' ∧ s'.size = s.size ∧ s'.rd = s.rd ∧ den (k s') = some d ∧
   ∀ (ω : Nat → Value) (ρ : Option Nat) (Q : Exit → Act → World → Prop) (a : Act) (w : World) (Im : Nat → Prop) (θ : Th), Sim P ω ρ s a w Im θ → After P ω ρ s s' a w Im θ (Q .normal) → wpOpsIn (FR ρ) 0 P all.toArray Q (List.range' i os.length) a w
 | [], i, s, _, hs, h => ⟨s, hs, Later.refl s, rfl, rfl, h, fun ω ρ Q a w Im θ sim hA => hA a w Im θ sim (Ext.refl _) (New.refl rfl)⟩
 | o :: os, i, s, hall, hs, h => by
  simp only [opsQ] at h
  have ho : all[i]? = some o := by
   have := congrArg (·[0]?) hall
   simpa using this
  have hall' : all.drop (i + 1) = os := by
   have := congrArg List.tail hall
   simpa using this
  cases hd : dstOk s o.dst with
  | false => rw [hd] at h; exact (fl_no hfl h).elim
  | true =>
   rw [hd] at h
   simp only [cond_true] at h
   have hdN := dstOk_N hd
   obtain ⟨s1, go, hal, hw, h1⟩ := guard_run hfl hs.size h
   have hs1 := hal.ok hs
   have hd1 : dstN s1.size o.dst := by rw [hal.size]; exact hdN
   cases go with
   | true =>
    simp only [cond_true] at h1
    obtain ⟨s2, hs2, hl2, z2, r2, h2, hwp⟩ := step_run hfl hrec hκ hs1 hd1 h1
    obtain ⟨s3, hs3, hl3, z3, r3, h3, hwp3⟩ := opsQ_run os (i + 1) s2 hall' hs2 h2
    refine ⟨s3, hs3, (hal.later.trans hl2).trans hl3, by rw [z3, z2, hal.size], by rw [r3, r2, hal.rd], h3, fun ω ρ Q a w Im θ sim hA => ?_⟩
    simp only [List.length_cons, List.range'_succ, wpOpsIn, List.getElem?_toArray, ho]
    rw [wanted_eq sim.sf hw]
    simp only [if_true]
    have hA1 : After P ω ρ s1 s3 a w Im θ (Q .normal) := After.trans hal.later (by rw [hal.hp]; exact Ext.refl _) (New.refl rfl) hA
    refine hwp ω ρ _ Q a w Im θ (hal.sim sim) (fun a' w' Im' θ' sim' hE hN => ?_)
    exact hwp3 ω ρ Q a' w' Im' θ' sim' (After.trans hl2 hE hN hA1)
   | false =>
    simp only [cond_false] at h1
    obtain ⟨s3, hs3, hl3, z3, r3, h3, hwp3⟩ := opsQ_run os (i + 1) _ hall' (put_ok hs1 hd1 (.tup [])) h1
    refine ⟨s3, hs3, (hal.later.trans (put_later _ _ _)).trans hl3, by rw [z3, put_sz, hal.size], by rw [r3, put_rd, hal.rd], h3, fun ω ρ Q a w Im θ sim hA => ?_⟩
    simp only [List.length_cons, List.range'_succ, wpOpsIn, List.getElem?_toArray, ho]
    rw [wanted_eq sim.sf hw]
    simp only [Bool.false_eq_true, if_false]
    refine ⟨fun f _ => FR_fn ρ f, ?_⟩
    refine hwp3 ω ρ Q _ w Im θ (put_sim (hal.sim sim) hd1 (.tup rfl (fun i v u hv _ => by simp at hv))) ?_
    exact After.trans (hal.later.trans (put_later _ _ _)) (by rw [put_hp, hal.hp]; exact Ext.refl _) (New.refl (put_defers _ _ _)) hA
omit hrec hκ in
theorem opsR_run {all : List Oper} {k : St → List Foot → R} {d : D} : ∀ (os : List Oper) (i : Nat) (s : St) (acc : List Foot), StOk s → den (opsR fl P κ all k os i s acc) = some d →
  ∃ recs s', Txt P κ all s.size os s.tmp s.hp.get s.nx recs s'.tmp s'.hp.get s'.nx ∧ StOk s' ∧ s'.size = s.size ∧ s'.rd = s.rd ∧ Later s s' ∧ den (k s' (feet i recs acc)) = some d
 | [], i, s, acc, hs, h => ⟨[], s, .nil, hs, rfl, rfl, Later.refl s, h⟩
 | o :: os, i, s, acc, hs, h => by
  simp only [opsR] at h
  cases hd : dstOk s o.dst with
  | false => rw [hd] at h; exact (fl_no hfl h).elim
  | true =>
   rw [hd] at h
   simp only [cond_true] at h
   have hdN := dstOk_N hd
   obtain ⟨s1, go, hal, hw, h1⟩ := guard_run hfl hs.size h
   have hs1 := hal.ok hs
   have hd1 : dstN s1.size o.dst := by rw [hal.size]; exact hdN
   cases go with
   | true =>
    simp only [cond_true] at h1
    obtain ⟨r, ups, nx, rs', hm, h2⟩ := interp_run hfl _ _ h1
    cases hb : Nat.blt nx 1000000 with
    | false => rw [hb] at h2; exact (fl_no hfl h2).elim
    | true =>
     rw [hb] at h2
     simp only [cond_true, List.nil_append] at h2
     have hnx : nx < 1000000 := by rw [Nat.blt_eq] at hb; exact hb
     rw [evT_ev] at hm
     obtain ⟨hle, hkeys⟩ := opM_wf hm
     have hk : ∀ p ∈ ups, p.1 < nx := by
      intro p hp
      rcases hkeys p hp with h3 | h3
      · obtain ⟨c, hc⟩ := mrun_reads _ _ hm p.1 h3
        have := hs1.dom _ c hc; omega
      · exact h3.2
     have hk2 : ∀ p ∈ ups, p.1 < 1000000 := fun p hp => by have := hk p hp; omega
     have ou := upd_ok hs1 hle hnx hk
     have hhp : (s1.upd ups nx).hp.get = updF ups s1.hp.get := upsTr_get _ _ hk2
     obtain ⟨recs, s', ht, hs', g1, g2, g3, g6⟩ := opsR_run os (i + 1) _ _ (put_ok ou hd1 r) h2
     rw [put_sz, put_hp, put_nx, hhp, tmp_put (s := s1.upd ups nx) hd1 ou.size] at ht
     rw [hal.tmp, hal.hp, hal.nx] at hm
     have ht' : Txt P κ all s.size os (updT s.tmp o.dst r) (updF ups s.hp.get) nx recs s'.tmp s'.hp.get s'.nx := by
      rw [← hal.tmp, ← hal.hp, ← hal.size]; exact ht
     refine ⟨_ :: recs, s', .run hdN hw hm ht', hs', by rw [g1, put_sz]; exact hal.size, by rw [g2, put_rd]; exact hal.rd, ((hal.later.trans (upd_later hle hk2)).trans (put_later _ _ _)).trans g3, ?_⟩
     simpa [feet] using g6
   | false =>
    simp only [cond_false] at h1
    obtain ⟨recs, s', ht, hs', g1, g2, g3, g6⟩ := opsR_run os (i + 1) _ _ (put_ok hs1 hd1 (.tup [])) h1
    rw [put_sz, put_hp, put_nx, tmp_put hd1 hs1.size, hal.tmp, hal.hp, hal.nx, hal.size] at ht
    exact ⟨_ :: recs, s', .skip hdN hw ht, hs', by rw [g1, put_sz, hal.size], by rw [g2, put_rd, hal.rd], (hal.later.trans (put_later _ _ _)).trans g3, by simpa [feet] using g6⟩
omit hfl hrec hκ in
theorem cnt_le_n (D : Nat → Bool) : ∀ n, cnt D n ≤ n
 | 0 => Nat.le_refl _
 | n + 1 => by have := cnt_le_n D n; simp only [cnt]; split <;> omega
omit hfl hrec hκ in
theorem drew_same {Im : Nat → Prop} {w : World} : ∀ b, Im b → Im b ∧ ({ w with drawn := w.drawn + 1 } : World).heap[b]? = w.heap[b]? := fun _ hb => ⟨hb, rfl⟩
omit hfl hrec hκ in
theorem Ext.drew {new : Nat → Prop} {h : HpF} {w : World} {Im : Nat → Prop} {θ : Th} : Ext new h w Im θ h { w with drawn := w.drawn + 1 } Im θ where
 thOld _ _ := rfl
 thUp _ _ h := h
 imUp _ h := h
 size := Nat.le_refl _
 keep _ _ _ := rfl
 imNew _ h := .inl h
 ownNew x c _ N h1 h2 := .inl ⟨x, c, N, h1, h2⟩
 os := rfl
 output := rfl
 tape := rfl
omit hfl hrec hκ in
theorem SimF.drew {n : Nat} {T : Nat → SV} {h : HpF} {a : Act} {w : World} {Im : Nat → Prop} {θ : Th} (s : SimF P ω n T h a w Im θ) : SimF P ω n T h a { w with drawn := w.drawn + 1 } Im θ := by
 refine ⟨s.size, fun t ht => (s.tm t ht).mono drew_same (fun _ _ h => h), s.out, s.df.step (Ext.drew (new := fun _ => False)), ?_⟩
 exact ⟨fun x c hx => (s.hp.at_ x c hx).mono drew_same (fun _ _ h => h) rfl (fun _ _ _ => rfl), s.hp.inj, s.hp.own, s.hp.im⟩
omit hfl hrec in
theorem txt_comes (hmix : P.follows .mixedOrders = true) {id : Nat} {ops : Array Oper} {draw : Bool} {s s' : St} {recs : List Rec} {T' : Nat → SV} (hs : StOk s) (hs' : StOk s') (hl : Later s s') (hz : s'.size = s.size) (hrd : s'.rd = s.rd)
  (ht : Txt P κ ops.toList s.size ops.toList s.tmp s.hp.get s.nx recs T' s'.hp.get s'.nx) (hT : ∀ t, s'.tmp t = .junk ∨ s'.tmp t = T' t)
  (hdr : draw = true → staticOk ops.toList (befAll ops.toList []) [] ops.toList 0 = true ∧ footsOk (befAll ops.toList []) (feet 0 recs []) = true) : Comes P (.region id ops draw) s .normal s' := by
 refine ⟨hl, hz, hrd, 0, fun ω ρ Q a w Im θ sim hA => ?_⟩
 have fin : ∀ (a' : Act) (w' : World) (Im' : Nat → Prop) (θ' : Th), SimF P ω s.size T' s'.hp.get a' w' Im' θ' → Fr s'.nx θ' s'.hp.get → a'.defers = a.defers → Ext (fun x => s.nx ≤ x) s.hp.get w Im θ s'.hp.get w' Im' θ' → Q .normal a' w' := by
  intro a' w' Im' θ' hS hF hdf hE
  refine hA a' w' Im' θ' ⟨hs', by rw [hz]; exact hS.weaken hT, hF, ?_⟩ hE (New.refl hdf)
  rw [hrd]
  rcases sim.rd with g | ⟨y, b, N, g1, g2, g3⟩
  · exact .inl g
  · exact .inr ⟨y, b, N, g1, hE.thUp _ _ g2, g3⟩
 show (Code.region id ops draw).wpIn (FR ρ) 0 P Q a w
 cases draw with
 | false =>
  refine wpIn_region ?_
  have hsnd := seq_sound (P := P) hκ (nx0 := s.nx) (ro := ρ) (Q := Q) (ds := a.defers) ht 0 a w Im θ (by simp) rfl sim.sf sim.fr (Nat.le_refl _) (w0 := w) (Im0 := Im) (θ0 := θ) (h0 := s.hp.get) (Ext.refl _) (fun a' w' Im' θ' hdf hS hF hn hE =>
   fin a' w' Im' θ' hS hF hdf hE)
  simpa [List.range_eq_range'] using hsnd
 | true =>
  obtain ⟨hst, hf⟩ := hdr rfl
  refine wpIn_region_any hmix ?_
  have hS := sim.sf.drew
  have hz' : ∀ j, 0 ≤ j → (fun _ : Nat => false) j = false := fun _ _ => rfl
  refine any_sound (P := P) (ω := ω) hκ (all := ops.toList) (nxs := s.nx) (ro := ρ) (ds := a.defers) ht hs.dom (Nat.le_refl _) (static_of hst) hf (Q := Q) (hs := s.hp.get) (ws := w) (Ims := Im) (θs := θ) ?_ ops.size (fun _ => false) (Array.replicate ops.size false) a { w with drawn := w.drawn + 1 } Im θ ?_ (by simp) ?_ (fun _ _ => rfl) (fun i hi => by cases hi) rfl ?_ ?_ ?_
  · intro a' w' Im' θ' hdf hS' hF hn hE'
    exact fin a' w' Im' θ' hS' hF hdf hE'
  · have := cnt_le_n (fun _ => false) ops.toList.length
    simpa using this
  · intro i hi
    simp at hi
    simp [hi]
  · rw [TD_none _ _ _ _ hz', HD_none _ _ _ _ hz']; exact hS
  · intro x hx
    left
    rw [HD_none _ _ _ _ hz'] at hx
    rcases Nat.lt_or_ge x s.nx with h1 | h1
    · exact h1
    · obtain ⟨f1, f2⟩ := sim.fr x h1
      rcases hx with hx | hx
      · exact absurd f1 hx
      · exact absurd f2 hx
  · rw [HD_none _ _ _ _ hz']; exact Ext.drew
theorem region_run (hmix : P.follows .mixedOrders = true) {id : Nat} {ops : Array Oper} {draw : Bool} {s : St} {k : St → R} {d : D} (hs : StOk s) (h : den (regionC fl P κ ι rec ops draw k s) = some d) :
  ∃ s', StOk s' ∧ Comes P (.region id ops draw) s .normal s' ∧ den (k s') = some d := by
 unfold regionC at h
 cases hsp : specRun P κ ops.toList draw s with
 | some s' =>
  simp only [hsp] at h
  obtain ⟨hst, recs, Ta, ht, hups, hs', g1, g2, g3, g4, g5, g6⟩ := specRun_run hs hsp
  have g7 : s'.rd = s.rd := specRun_rd hsp
  refine ⟨s', hs', txt_comes hκ hmix hs hs' (Later.of g4 g3 g2 g5) g1 g7 (by rw [g2, g3]; exact ht) g6 (fun hd => ⟨hst hd, footsOk_nil _ _ (feet_nil recs 0 [] hups (fun f h => by cases h))⟩), h⟩
 | none =>
  simp only [hsp] at h
  unfold regionB at h
  cases draw with
  | false =>
   simp only [cond_false] at h
   obtain ⟨s', hs', hl, hz, hr, h1, hwp⟩ := opsQ_run hfl hrec hκ ops.toList 0 s (by simp) hs h
   refine ⟨s', hs', ⟨hl, hz, hr, 0, fun ω ρ Q a w Im θ sim hA => ?_⟩, h1⟩
   show (Code.region id ops false).wpIn (FR ρ) 0 P Q a w
   refine wpIn_region ?_
   have := hwp ω ρ Q a w Im θ sim hA
   simpa [List.range_eq_range'] using this
  | true =>
   simp only [cond_true] at h
   cases hst : staticOk ops.toList (befAll ops.toList []) [] ops.toList 0 with
   | false => rw [hst] at h; exact (fl_no hfl h).elim
   | true =>
    rw [hst] at h
    simp only [cond_true] at h
    obtain ⟨recs, s', ht, hs', hz, hr, hl, h1⟩ := opsR_run hfl _ _ _ _ hs h
    cases hf : footsOk (befAll ops.toList []) (feet 0 recs []) with
    | false => rw [hf] at h1; exact (fl_no hfl h1).elim
    | true =>
     rw [hf] at h1
     simp only [cond_true] at h1
     exact ⟨s', hs', txt_comes hκ hmix hs hs' hl hz hr ht (fun t => .inr rfl) (fun _ => ⟨hst, hf⟩), h1⟩
end
end Go.Am
/- The abstract machine: a range over a function. -/
namespace Go.Am
variable {P : Program} {ω : Nat → Value}
theorem enter_range {ρ : Option Nat} {s : St} {a : Act} {w : World} {Im : Nat → Prop} {θ : Th} (sim : Sim P ω ρ s a w Im θ) (hrd : rdOk s = true) (hnx : s.nx + 1 < 1000000) (ps : Array Nat) (asg bdy : Code) (fn : FuncId) :
  ∃ (l : Nat) (mk : List Nat) (w1 : World) (θ1 : Th), (Instr.enterLoop fn a.tmps ps asg bdy ρ).run P w = .ok (l, mk.map mark) w1 ∧
   Sim P ω ρ (s.upd [(s.nx, some (.loopr .ready (listOfTr s s.size 0) ps asg bdy))] (s.nx + 1)) { a with defers := mk.map mark ++ a.defers } w1 Im θ1 ∧
   Ext (fun x => s.nx ≤ x) s.hp.get w Im θ (s.upd [(s.nx, some (.loopr .ready (listOfTr s s.size 0) ps asg bdy))] (s.nx + 1)).hp.get w1 Im θ1 ∧ θ1 s.nx = some (l, 0) ∧ ∀ r ∈ mk, w.heap.size ≤ r := by
 have hs := sim.ok
 have hk : ∀ p ∈ [(s.nx, some (Chunk.loopr .ready (listOfTr s s.size 0) ps asg bdy))], p.1 < s.nx + 1 := by
  intro p hp
  simp only [List.mem_singleton] at hp
  subst hp; exact Nat.lt_succ_self _
 have ou := upd_ok hs (Nat.le_succ _) hnx hk
 have hhp : (s.upd [(s.nx, some (.loopr .ready (listOfTr s s.size 0) ps asg bdy))] (s.nx + 1)).hp.get = updF [(s.nx, some (.loopr .ready (listOfTr s s.size 0) ps asg bdy))] s.hp.get :=
  upsTr_get _ _ (fun p hp => by have := hk p hp; omega)
 obtain ⟨f1, f2⟩ := sim.fr s.nx (Nat.le_refl _)
 -- what both ways have in common
 have core : ∀ (wA : World) (lp : Loop), Ext (fun _ => False) s.hp.get w Im θ s.hp.get wA Im θ → HRel P ω wA Im θ s.hp.get → lp.tmps = a.tmps → lp.params = ps → lp.assign = asg → lp.body = bdy → lp.state = .ready → lp.pending = none →
   ∃ θ1, Ext (fun x => s.nx ≤ x) s.hp.get w Im θ (s.upd [(s.nx, some (.loopr .ready (listOfTr s s.size 0) ps asg bdy))] (s.nx + 1)).hp.get (wA.alloc (.loop lp)) Im θ1 ∧
    HRel P ω (wA.alloc (.loop lp)) Im θ1 (s.upd [(s.nx, some (.loopr .ready (listOfTr s s.size 0) ps asg bdy))] (s.nx + 1)).hp.get ∧ θ1 s.nx = some (wA.heap.size, 0) ∧ (∀ x, x ≠ s.nx → θ1 x = θ x) ∧
    (∀ ds, Mk (wA.alloc (.loop lp)) Im θ1 (s.upd [(s.nx, some (.loopr .ready (listOfTr s s.size 0) ps asg bdy))] (s.nx + 1)).hp.get ds →
     Sim P ω ρ (s.upd [(s.nx, some (.loopr .ready (listOfTr s s.size 0) ps asg bdy))] (s.nx + 1)) { a with defers := ds } (wA.alloc (.loop lp)) Im θ1) := by
  intro wA lp hE hH h1 h2 h3 h4 h5 h6
  have hSA : SimF P ω s.size s.tmp s.hp.get a wA Im θ := sim.sf.step (dst := none) trivial hE (VRel'.junk (u := undef)) hH
  obtain ⟨θ1, g1, g2, g3⟩ := alloc_loop (st := .ready) hH f1 (lp := lp) (vs := listOfTr s s.size 0) (by rw [h1]; exact list_rel hSA) ⟨h5, h6⟩
  rw [h2, h3, h4, ← hhp] at g1 g2
  have hEE : Ext (fun x => s.nx ≤ x) s.hp.get w Im θ (s.upd [(s.nx, some (.loopr .ready (listOfTr s s.size 0) ps asg bdy))] (s.nx + 1)).hp.get (wA.alloc (.loop lp)) Im θ1 :=
   (hE.mono (fun _ h => h.elim)).trans (g1.mono (fun x hx => hx.1))
  refine ⟨θ1, hEE, g2, g3, fun x hx => g1.thOld x (fun hh => hx (by omega)), fun ds hds => ⟨ou, ⟨sim.sf.size, fun t ht => hEE.val sim.sf.hp (sim.sf.tm t ht), sim.sf.out, hds, g2⟩, ?_, ?_⟩⟩
  · rw [hhp]
    intro y hy
    have hy' : s.nx + 1 ≤ y := hy
    obtain ⟨k1, k2⟩ := sim.fr y (by omega)
    have hne : y ≠ s.nx := by omega
    refine ⟨by rw [g1.thOld y (fun hh => by omega)]; exact k1, by simp [updF, hne, k2]⟩
  · rcases sim.rd with h | ⟨y, b, N, k1, k2, k3⟩
    · exact .inl h
    · exact .inr ⟨y, b, N, k1, hEE.thUp _ _ k2, k3⟩
 rcases sim.rd with ⟨hr0, rfl⟩ | ⟨y, b, N, k1, k2, rfl⟩
 · -- the outermost
   obtain ⟨hE, hH⟩ := alloc_free sim.sf.hp (.deferred (some []))
   obtain ⟨θ1, g1, g2, g3, g4, g5⟩ := core _ { state := .ready, pending := none, fn := fn, tmps := a.tmps, params := ps, assign := asg, body := bdy, defers := w.heap.size } hE hH rfl rfl rfl rfl rfl rfl
   refine ⟨_, [w.heap.size], _, θ1, run_enterLoop_outer fn a.tmps ps asg bdy, g5 _ ?_, g1, by rw [g3]; simp, fun r hr => by simp at hr; omega⟩
   obtain ⟨rs, h1, h2, h3⟩ := sim.sf.df.step g1
   refine ⟨w.heap.size :: rs, by simp [h1, mark], List.nodup_cons.2 ⟨fun hh => ?_, h2⟩, fun r hr => ?_⟩
   · obtain ⟨rs', h1', -, h3'⟩ := sim.sf.df
     have : mark w.heap.size ∈ a.defers := by rw [h1]; exact List.mem_map.2 ⟨_, hh, rfl⟩
     rw [h1'] at this
     obtain ⟨q, hq, e⟩ := List.mem_map.1 this
     simp only [mark, Deferred.mk.injEq, Target.collected.injEq, and_true] at e
     have := heap_lt (h3' q hq).1
     omega
   · rcases List.mem_cons.1 hr with rfl | hr
     · refine ⟨?_, fun hi => ?_, fun x c M hx hθ => ?_⟩
       · rw [alloc_old _ _ _ (by simp), alloc_new]
       · have := sim.sf.hp.im _ hi; omega
       · by_cases hxn : x = s.nx
         · subst hxn
           rw [g3] at hθ
           simp only [Option.some.injEq, Prod.mk.injEq, World.size_alloc] at hθ
           omega
         · rw [g4 x hxn] at hθ
           rw [hhp] at hx
           simp only [updF, if_neg hxn] at hx
           have := (sim.sf.hp.own x c _ M hx hθ).2
           omega
     · exact h3 r hr
 · -- in a round
   have hl : ∃ lp : Loop, w.heap[b]? = some (.loop lp) := by
    unfold rdOk at hrd
    rw [k1] at hrd
    simp only [] at hrd
    split at hrd
    · rename_i hy
      obtain ⟨b', N', lp, j1, j2, -⟩ := sim.sf.hp.at_ y _ hy
      rw [k2] at j1
      simp only [Option.some.injEq, Prod.mk.injEq] at j1
      exact ⟨lp, by rw [j1.1]; exact j2⟩
    · cases hrd
   obtain ⟨lp, hlp⟩ := hl
   obtain ⟨θ1, g1, g2, g3, g4, g5⟩ := core w { state := .ready, pending := none, fn := fn, tmps := a.tmps, params := ps, assign := asg, body := bdy, defers := lp.defers } (Ext.refl _) sim.sf.hp rfl rfl rfl rfl rfl rfl
   exact ⟨_, [], _, θ1, run_enterLoop_inner hlp fn a.tmps ps asg bdy, g5 _ (sim.sf.df.step g1), g1, g3, fun r hr => by cases hr⟩
section
variable {R D : Type} {fl : R} {den : R → Option D} (hfl : den fl = none) {rec : Rcr R} (hrec : RcrOk P den rec) {κ : Nat → Option CSumm} {ι : Nat → Bool}
include hfl hrec
theorem range_run {g : Operand} {ps : Array Tmp} {asg bdy : Code} {s : St} {k : Ex → St → R} {d : D} (hs : StOk s) (h : den (execC fl P κ ι rec (.rangeFunc g ps asg bdy) s k) = some d) :
  ∃ e s2, StOk s2 ∧ Comes P (.rangeFunc g ps asg bdy) s e s2 ∧ den (k e s2) = some d := by
 simp only [execC] at h
 split at h
 case h_2 => exact (fl_no hfl h).elim
 rename_i f first caps hg
 cases hc : rdOk s && Nat.blt (s.nx + 1) 1000000 with
 | false => rw [hc] at h; exact (fl_no hfl h).elim
 | true =>
  rw [hc] at h
  simp only [cond_true] at h
  simp only [Bool.and_eq_true] at hc
  have hnx : s.nx + 1 < 1000000 := by have := hc.2; rwa [Nat.blt_eq] at this
  have hk : ∀ p ∈ [(s.nx, some (Chunk.loopr .ready (listOfTr s s.size 0) ps asg bdy))], p.1 < s.nx + 1 := by
   intro p hp
   simp only [List.mem_singleton] at hp
   subst hp; exact Nat.lt_succ_self _
  have ou := upd_ok hs (Nat.le_succ _) hnx hk
  have ol : Later s (s.upd [(s.nx, some (Chunk.loopr .ready (listOfTr s s.size 0) ps asg bdy))] (s.nx + 1)) := upd_later (Nat.le_succ _) (fun p hp => by have := hk p hp; omega)
  obtain ⟨r, s1, hs1, hl1, e1, e2, e3, h2, ⟨fnc, hfn, hn1, hn2⟩, hw⟩ := callIn_run hfl hrec ou h
  -- the end of it
  have fin : ∀ (st : LS) (e : Ex) (vs1 : List SV) (ps1 : Array Nat) (asg1 bdy1 : Code), s1.hp.get s.nx = some (.loopr st vs1 ps1 asg1 bdy1) → ((st = .ready ∧ e = .normal) ∨ st = .done e) →
    StOk (s1.upd [(s.nx, none)] s1.nx) ∧ Comes P (.rangeFunc g ps asg bdy) s e (s1.upd [(s.nx, none)] s1.nx) := by
   intro st e vs1 ps1 asg1 bdy1 hx1 hst
   obtain ⟨o2, l2, g2⟩ := turn_ok none hx1 hs1
   refine ⟨o2, (ol.trans hl1).trans l2, e2, e3, 0, fun ω ρ Q a w Im θ sim hA => ?_⟩
   show (Code.rangeFunc g ps asg bdy).wpIn (FR ρ) 0 P Q a w
   refine wpIn_rangeFunc (fun fn _ => ?_)
   obtain ⟨l, mk, w1, θ1, hen, sim0, hE0, hθ1, hmk⟩ := enter_range sim hc.1 hnx ps asg bdy fn
   have hf := sim.sf.eval g
   rw [← evT_ev, hg] at hf
   generalize hu : a.eval g = u at hf
   cases hf with
   | fn h1 h3 h4 h5 =>
    rename_i us vs
    have lift : ∀ {v : SV} {u : Value}, VRel P ω w Im θ v u → VRel P ω w1 Im θ1 v u := fun hv => hE0.val sim.sf.hp hv
    have hl : LRel P ω w1 Im θ1 (first ++ ([.yl s.nx] ++ caps)) (us.toList ++ ([.func (.yield l) #[] #[]] ++ vs.toList)) := by
     refine LRel.append ⟨by simpa using h1, fun i v u hv hu => lift (h4 i v u hv (by simpa using hu))⟩ (LRel.append ⟨rfl, fun i v u hv hu => ?_⟩ ⟨by simpa using h3, fun i v u hv hu => lift (h5 i v u hv (by simpa using hu))⟩)
     match i, hv, hu with
     | 0, hv, hu => cases hv; cases hu; exact .yl hθ1
    have ee : (us.toList ++ ([Value.func (.yield l) #[] #[]] ++ vs.toList)).toArray = us ++ #[Value.func (.yield l) #[] #[]] ++ vs := by
     apply Array.ext'
     simp
    have hn1' : ¬ fnc.name = "runtime.NumGoroutine" := by simpa using hn1
    have hn2' : ¬ fnc.body = none := by intro hh; simp [hh] at hn2
    refine ⟨l, mk.map mark, w1, { target := .fn (.func f) vs, args := us ++ #[.func (.yield l) #[] #[]] }, w1, f, (us.toList ++ ([Value.func (.yield l) #[] #[]] ++ vs.toList)).toArray, w1, hen, ?_, fun f' _ => FR_fn ρ f', ?_, FR_depth1 ρ, ?_⟩
    · have hcst : a.eval (.const (.func (.yield l) #[] #[])) = .func (.yield l) #[] #[] := rfl
      simp [resolve, hu, Deferred.ofValue, hcst]
    · rw [ee]
      simp [invoke, callFunc, hfn, hn1', hn2']
    · refine hw _ ρ { a with defers := mk.map mark ++ a.defers } w1 Im θ1 _ _ sim0 hl (fun v w' Im' θ' sim' hE hv => ?_)
      have hθ' : θ' s.nx = some (l, 0) := hE.thUp _ _ hθ1
      obtain ⟨b', N', lp', j1, j2, -, -, -, j3, -⟩ := sim'.sf.hp.at_ _ _ hx1
      rw [hθ'] at j1
      simp only [Option.some.injEq, Prod.mk.injEq] at j1
      obtain ⟨rfl, rfl⟩ := j1
      have hnb : lp'.state ≠ .busy := by
       rcases hst with ⟨rfl, -⟩ | rfl
       · rw [j3.1]; simp
       · rw [j3.1]; simp
      obtain ⟨hEd, hHd⟩ := put_block sim'.sf.hp hx1 hθ' (.loop { lp' with state := .exhausted }) none (fun _ d hd => by cases hd)
      obtain ⟨sim2, hE2⟩ := sim'.turn hx1 hEd hHd
      have hEall : Ext (fun x => s.nx ≤ x) s.hp.get w Im θ (s1.upd [(s.nx, none)] s1.nx).hp.get (w'.putObj l (.loop { lp' with state := .exhausted })) Im' θ' :=
       (hE0.trans (hE.mono (fun x hx => Nat.le_trans ol.nx hx))).trans (hE2.mono (fun x hx => Nat.le_trans (ol.trans hl1).nx hx))
      have hQ : Q (exitOf e) { a with defers := mk.map mark ++ a.defers } (w'.putObj l (.loop { lp' with state := .exhausted })) := hA _ _ Im' θ' sim2 hEall ⟨mk, rfl, hmk⟩
      refine ⟨lp'.pending, _, run_endLoop j2 hnb, ?_⟩
      rcases hst with ⟨rfl, rfl⟩ | rfl
      · rw [j3.2] at hQ ⊢; exact hQ
      · rw [j3.2.1] at hQ ⊢
        cases e with
        | normal => exact absurd j3.2.1 j3.2.2
        | ret => exact wpIn_ret hQ
        | exit id => exact wpIn_exit hQ
  split at h2
  · rename_i vs1 ps1 asg1 bdy1 hx1
    obtain ⟨o2, hcm⟩ := fin .ready .normal _ _ _ _ hx1 (.inl ⟨rfl, rfl⟩)
    exact ⟨.normal, _, o2, hcm, h2⟩
  · rename_i e vs1 ps1 asg1 bdy1 hx1
    obtain ⟨o2, hcm⟩ := fin (.done e) e _ _ _ _ hx1 (.inr rfl)
    exact ⟨e, _, o2, hcm, h2⟩
  · exact (fl_no hfl h2).elim
end
end Go.Am
/- The abstract machine: scopes that nothing jumps out of. -/
namespace Go
variable {F : Fence} {n : Nat} {P : Program} {Q : Exit → Act → World → Prop} {a : Act} {w : World}
theorem stepR_scopeA {b : Frame} {k : List Item} {cs : List Frame} {c : Code} : step P (lone (b.atR a (.code (.scope c) :: k)) cs w) = .next (lone (b.atR a (.code c :: .inScope c :: k)) cs w) := step_lone_go (by simp [stepG, stepG.exec, Frame.atR])
theorem stepR_inScopeA {b : Frame} {k : List Item} {cs : List Frame} {c : Code} : step P (lone (b.atR a (.inScope c :: k)) cs w) = .next (lone (b.atR a k) cs w) := step_lone_go (by simp [stepG, stepG.exec, Frame.atR])
theorem wpIn_scope_straight {c : Code} (h : c.wpIn F n P (Exit.noGoto Q) a w) : (Code.scope c).wpIn F n P Q a w := by
 intro b k cs hro hb hr
 have h0 : (lone (b.atR a (.code (.scope c) :: k)) cs w).fenced P F := fenced_calm hb hr rfl
 obtain ⟨e, a₁, w₁, hq, harr⟩ := h b (.inScope c :: k) cs hro hb hr
 cases e with
 | normal => exact ⟨.normal, a₁, w₁, hq, .head h0 stepR_scopeA (StepsIn.trans harr (.one (fenced_calm hb hr rfl) stepR_inScopeA))⟩
 | exit id =>
  have hx : exitTo id (.inScope c :: k) = exitTo id k := by simp [exitTo]
  exact ⟨.exit id, a₁, w₁, hq, fun k' hk => .head h0 stepR_scopeA (harr.1 k' (by rw [hx]; exact hk)), fun hr' hk => let ⟨k₁, h1, h2⟩ := harr.2 hr' (by rw [hx]; exact hk); ⟨k₁, h1, .head h0 stepR_scopeA h2⟩⟩
 | goto l => exact hq.elim
 | ret => exact ⟨_, a₁, w₁, hq, .of_steps (.one h0 stepR_scopeA) harr⟩
 | panic ch => exact ⟨_, a₁, w₁, hq, .of_steps (.one h0 stepR_scopeA) harr⟩
 | outgrown => exact ⟨_, a₁, w₁, hq, .of_steps (.one h0 stepR_scopeA) harr⟩
end Go
/- The abstract machine: code. -/
namespace Go.Am
variable {P : Program} {ω : Nat → Value}
theorem comes_self {c : Code} {s : St} {e : Ex} (h : ∀ (ρ : Option Nat) (Q : Exit → Act → World → Prop) (a : Act) (w : World), Q (exitOf e) a w → W P ρ 0 c Q a w) : Comes P c s e s :=
 ⟨Later.refl s, rfl, rfl, 0, fun _ ρ Q a w Im θ sim hA => h ρ Q a w (hA a w Im θ sim (Ext.refl _) (New.refl rfl))⟩
section
variable {R D : Type} {fl : R} {den : R → Option D} (hfl : den fl = none) {rec : Rcr R} (hrec : RcrOk P den rec) {κ : Nat → Option CSumm} {ι : Nat → Bool} (hκ : KOk P κ)
include hfl hrec hκ
theorem execC_ok (hmix : P.follows .mixedOrders = true) : RcrOk P den (execC fl P κ ι rec) := by
 intro c
 induction c with
 | skip => intro s k d hs h; exact ⟨.normal, s, hs, comes_self (fun ρ Q a w hq => wpIn_skip hq), h⟩
 | region id ops draw =>
  intro s k d hs h
  obtain ⟨s', hs', hc, h1⟩ := region_run hfl hrec hκ (id := id) hmix hs h
  exact ⟨.normal, s', hs', hc, h1⟩
 | seq x y ihx ihy =>
  intro s k d hs h
  simp only [execC] at h
  obtain ⟨e, s1, hs1, hc1, h1⟩ := ihx s _ d hs h
  cases e with
  | normal =>
   simp only [] at h1
   obtain ⟨e2, s2, hs2, hc2, h2⟩ := ihy s1 k d hs1 h1
   refine ⟨e2, s2, hs2, ⟨hc1.later.trans hc2.later, by rw [hc2.size, hc1.size], by rw [hc2.rd, hc1.rd], 0, fun ω ρ Q a w Im θ sim hA => ?_⟩, h2⟩
   refine wpIn_seq (hc1.wp ρ _ a w Im θ sim (fun a' w' Im' θ' sim' hE hN => ?_))
   exact hc2.wp ρ Q a' w' Im' θ' sim' (After.trans hc1.later hE hN hA)
  | exit id =>
   exact ⟨.exit id, s1, hs1, ⟨hc1.later, hc1.size, hc1.rd, 0, fun ω ρ Q a w Im θ sim hA => wpIn_seq (hc1.wp ρ _ a w Im θ sim (fun a' w' Im' θ' sim' hE hN => hA a' w' Im' θ' sim' hE hN))⟩, h1⟩
  | ret =>
   exact ⟨.ret, s1, hs1, ⟨hc1.later, hc1.size, hc1.rd, 0, fun ω ρ Q a w Im θ sim hA => wpIn_seq (hc1.wp ρ _ a w Im θ sim (fun a' w' Im' θ' sim' hE hN => hA a' w' Im' θ' sim' hE hN))⟩, h1⟩
 | cond c x y ihx ihy =>
  intro s k d hs h
  simp only [execC] at h
  split at h
  · rename_i b hb
    have hev : ∀ {ω : Nat → Value} {ρ : Option Nat} {a : Act} {w : World} {Im : Nat → Prop} {θ : Th}, Sim P ω ρ s a w Im θ → a.eval c = .bool b := by
     intro ω ρ a w Im θ sim
     have := sim.sf.eval c
     rw [← evT_ev, hb] at this
     generalize a.eval c = u at this
     cases this
     rfl
    cases b with
    | true =>
     obtain ⟨e, s1, hs1, hc1, h1⟩ := ihx s k d hs h
     exact ⟨e, s1, hs1, ⟨hc1.later, hc1.size, hc1.rd, 0, fun ω ρ Q a w Im θ sim hA => wpIn_cond_true (hev sim) (hc1.wp ρ Q a w Im θ sim hA)⟩, h1⟩
    | false =>
     obtain ⟨e, s1, hs1, hc1, h1⟩ := ihy s k d hs h
     exact ⟨e, s1, hs1, ⟨hc1.later, hc1.size, hc1.rd, 0, fun ω ρ Q a w Im θ sim hA => wpIn_cond_false (hev sim) (hc1.wp ρ Q a w Im θ sim hA)⟩, h1⟩
  · exact (fl_no hfl h).elim
 | block id c ih =>
  intro s k d hs h
  simp only [execC] at h
  obtain ⟨e, s1, hs1, hc1, h1⟩ := ih s _ d hs h
  cases e with
  | normal => exact ⟨.normal, s1, hs1, ⟨hc1.later, hc1.size, hc1.rd, 0, fun ω ρ Q a w Im θ sim hA => wpIn_block (hc1.wp ρ _ a w Im θ sim hA)⟩, h1⟩
  | ret => exact ⟨.ret, s1, hs1, ⟨hc1.later, hc1.size, hc1.rd, 0, fun ω ρ Q a w Im θ sim hA => wpIn_block (hc1.wp ρ _ a w Im θ sim hA)⟩, h1⟩
  | exit j =>
   simp only [] at h1
   cases hj : Nat.beq j id with
   | true =>
    rw [hj] at h1
    have hji : j = id := Nat.eq_of_beq_eq_true hj
    subst hji
    refine ⟨.normal, s1, hs1, ⟨hc1.later, hc1.size, hc1.rd, 0, fun ω ρ Q a w Im θ sim hA => wpIn_block (hc1.wp ρ _ a w Im θ sim (fun a' w' Im' θ' sim' hE hN => ?_))⟩, h1⟩
    simp only [exitOf, Exit.inBlock, if_true]
    exact hA a' w' Im' θ' sim' hE hN
   | false =>
    rw [hj] at h1
    have hji : ¬ j = id := fun e => by rw [nb_t e] at hj; cases hj
    refine ⟨.exit j, s1, hs1, ⟨hc1.later, hc1.size, hc1.rd, 0, fun ω ρ Q a w Im θ sim hA => wpIn_block (hc1.wp ρ _ a w Im θ sim (fun a' w' Im' θ' sim' hE hN => ?_))⟩, h1⟩
    simp only [exitOf, Exit.inBlock, if_neg hji]
    exact hA a' w' Im' θ' sim' hE hN
 | loop c ih =>
  intro s k d hs h
  simp only [execC] at h
  obtain ⟨e, s1, hs1, hc1, h1⟩ := ih s _ d hs h
  cases e with
  | normal =>
   simp only [] at h1
   obtain ⟨e2, s2, hs2, hc2, h2⟩ := hrec (.loop c) s1 k d hs1 h1
   obtain ⟨m, hm⟩ := hc2.wps
   refine ⟨e2, s2, hs2, ⟨hc1.later.trans hc2.later, by rw [hc2.size, hc1.size], by rw [hc2.rd, hc1.rd], m + 1, fun ω ρ Q a w Im θ sim hA => ?_⟩, h2⟩
   show Code.roundsIn (FR ρ) 0 P c Q (m + 1) a w
   rw [roundsIn_succ]
   refine hc1.wp ρ _ a w Im θ sim (fun a' w' Im' θ' sim' hE hN => ?_)
   exact hm ω ρ Q a' w' Im' θ' sim' (After.trans hc1.later hE hN hA)
  | exit id =>
   refine ⟨.exit id, s1, hs1, ⟨hc1.later, hc1.size, hc1.rd, 1, fun ω ρ Q a w Im θ sim hA => ?_⟩, h1⟩
   show Code.roundsIn (FR ρ) 0 P c Q 1 a w
   rw [roundsIn_succ]
   exact hc1.wp ρ _ a w Im θ sim (fun a' w' Im' θ' sim' hE hN => hA a' w' Im' θ' sim' hE hN)
  | ret =>
   refine ⟨.ret, s1, hs1, ⟨hc1.later, hc1.size, hc1.rd, 1, fun ω ρ Q a w Im θ sim hA => ?_⟩, h1⟩
   show Code.roundsIn (FR ρ) 0 P c Q 1 a w
   rw [roundsIn_succ]
   exact hc1.wp ρ _ a w Im θ sim (fun a' w' Im' θ' sim' hE hN => hA a' w' Im' θ' sim' hE hN)
 | exit id => intro s k d hs h; exact ⟨.exit id, s, hs, comes_self (fun ρ Q a w hq => wpIn_exit hq), h⟩
 | label l => intro s k d hs h; exact ⟨.normal, s, hs, comes_self (fun ρ Q a w hq => wpIn_label hq), h⟩
 | ret => intro s k d hs h; exact ⟨.ret, s, hs, comes_self (fun ρ Q a w hq => wpIn_ret hq), h⟩
 | rangeFunc f ps x y _ _ => intro s k d hs h; exact range_run hfl hrec hs h
 | scope c ih =>
  intro s k d hs h
  simp only [execC] at h
  obtain ⟨e, s1, hs1, hc1, h1⟩ := ih s k d hs h
  exact ⟨e, s1, hs1, ⟨hc1.later, hc1.size, hc1.rd, 0, fun ω ρ Q a w Im θ sim hA => wpIn_scope_straight (hc1.wp ρ _ a w Im θ sim (fun a' w' Im' θ' sim' hE hN => by
   cases e <;> exact hA a' w' Im' θ' sim' hE hN))⟩, h1⟩
 | goto l => intro s k d hs h; exact (fl_no hfl h).elim
 | refuse w => intro s k d hs h; exact (fl_no hfl h).elim
end
theorem exec_ok {R D : Type} {fl : R} {den : R → Option D} (hfl : den fl = none) {κ : Nat → Option CSumm} {ι : Nat → Bool} (hκ : KOk P κ) (hmix : P.follows .mixedOrders = true) : ∀ n, RcrOk P den (exec fl P κ ι n)
 | 0 => fun _ _ _ _ _ h => (fl_no hfl h).elim
 | n + 1 => execC_ok hfl (exec_ok hfl hκ hmix n) hκ hmix
end Go.Am
/- The abstract machine: a function's body tells of its calls. -/
namespace Go.Am
variable {P : Program} {ω : Nat → Value}
theorem reachNew_spec {h : Tr Chunk} {m : Nat} : ∀ (d : Nat) (todo acc ns : List Nat), reachNew h m d todo acc = some ns → acc.Nodup → (∀ x ∈ acc, m ≤ x ∧ ∃ c, h.get x = some c) →
  (∀ x ∈ acc, ∀ c, h.get x = some c → ∀ z ∈ namesC c, z < m ∨ z ∈ acc ∨ z ∈ todo) →
  ns.Nodup ∧ (∀ x ∈ ns, m ≤ x ∧ ∃ c, h.get x = some c) ∧ (∀ x ∈ ns, ∀ c, h.get x = some c → ∀ z ∈ namesC c, z < m ∨ z ∈ ns) ∧ (∀ z ∈ todo, z < m ∨ z ∈ ns) ∧ (∀ z ∈ acc, z ∈ ns)
 | 0, _, _, _, h, _, _, _ => by simp [reachNew] at h
 | d + 1, [], acc, ns, h, h1, h2, h3 => by
  simp only [reachNew, Option.some.injEq] at h
  subst h
  refine ⟨h1, h2, fun x hx c hc z hz => ?_, (fun z hz => by cases hz), fun z hz => hz⟩
  rcases h3 x hx c hc z hz with h4 | h4 | h4
  · exact .inl h4
  · exact .inr h4
  · cases h4
 | d + 1, x :: todo, acc, ns, hh, h1, h2, h3 => by
  simp only [reachNew] at hh
  cases hb : Nat.blt x m || memN x acc with
  | true =>
   rw [hb] at hh
   simp only [cond_true] at hh
   have hx : x < m ∨ x ∈ acc := by
    simp only [Bool.or_eq_true] at hb
    rcases hb with hb | hb
    · left; rwa [Nat.blt_eq] at hb
    · right; exact (memN_iff _ _).1 hb
   obtain ⟨g1, g2, g3, g4, g5⟩ := reachNew_spec d todo acc ns hh h1 h2 (fun y hy c hc z hz => by
    rcases h3 y hy c hc z hz with h4 | h4 | h4
    · exact .inl h4
    · exact .inr (.inl h4)
    · rcases List.mem_cons.1 h4 with rfl | h4
      · rcases hx with hx | hx
        · exact .inl hx
        · exact .inr (.inl hx)
      · exact .inr (.inr h4))
   refine ⟨g1, g2, g3, fun z hz => ?_, g5⟩
   rcases List.mem_cons.1 hz with rfl | hz
   · rcases hx with hx | hx
     · exact .inl hx
     · exact .inr (g5 _ hx)
   · exact g4 z hz
  | false =>
   rw [hb] at hh
   simp only [cond_false] at hh
   simp only [Bool.or_eq_false_iff] at hb
   have hxm : m ≤ x := by
    rcases Nat.lt_or_ge x m with h4 | h4
    · rw [← Nat.blt_eq] at h4; rw [h4] at hb; exact absurd hb.1 (by simp)
    · exact h4
   have hxa : x ∉ acc := fun h4 => by rw [(memN_iff _ _).2 h4] at hb; exact absurd hb.2 (by simp)
   cases hx : h.get x with
   | none => simp [hx] at hh
   | some c =>
    simp only [hx] at hh
    obtain ⟨g1, g2, g3, g4, g5⟩ := reachNew_spec d (namesC c ++ todo) (acc ++ [x]) ns hh
     (by rw [List.nodup_append]; exact ⟨h1, by simp, fun a ha b hb => by simp at hb; subst hb; intro e; subst e; exact hxa ha⟩)
     (fun y hy => by
      rcases List.mem_append.1 hy with hy | hy
      · exact h2 y hy
      · simp at hy; subst hy; exact ⟨hxm, c, hx⟩)
     (fun y hy c' hc' z hz => by
      rcases List.mem_append.1 hy with hy | hy
      · rcases h3 y hy c' hc' z hz with h4 | h4 | h4
        · exact .inl h4
        · exact .inr (.inl (by simp [h4]))
        · rcases List.mem_cons.1 h4 with rfl | h4
          · exact .inr (.inl (by simp))
          · exact .inr (.inr (by simp [h4]))
      · simp at hy; subst hy
        rw [hx] at hc'
        cases hc'
        exact .inr (.inr (by simp [hz])))
    refine ⟨g1, g2, g3, fun z hz => ?_, fun z hz => g5 z (by simp [hz])⟩
    rcases List.mem_cons.1 hz with rfl | hz
    · exact .inr (g5 _ (by simp))
    · exact g4 z (by simp [hz])
theorem dirtyNames_mem {h : Tr Chunk} : ∀ {l : List Nat} {x : Nat} {c : Chunk}, x ∈ l → h.get x = some c → ∀ z ∈ namesC c, z ∈ dirtyNames h l
 | [], _, _, hx, _, _, _ => by cases hx
 | y :: l, x, c, hx, hc, z, hz => by
  simp only [dirtyNames]
  rcases List.mem_cons.1 hx with rfl | hx
  · rw [hc]; simp [hz]
  · have := dirtyNames_mem hx hc z hz
    cases h.get y with
    | none => exact this
    | some d => simp [this]
theorem outOld_keys (h : Tr Chunk) (f : Nat → Nat) : ∀ (l : List Nat), (outOld h f l).map (·.1) = l
 | [] => rfl
 | x :: l => by simp [outOld, outOld_keys h f l]
theorem outNew_keys (h : Tr Chunk) (f : Nat → Nat) : ∀ (l : List Nat), (∀ x ∈ l, ∃ c, h.get x = some c) → (outNew h f l).map (·.1) = l.map f
 | [], _ => rfl
 | x :: l, hl => by
  obtain ⟨c, hc⟩ := hl x (by simp)
  simp [outNew, hc, outNew_keys h f l (fun y hy => hl y (by simp [hy]))]
theorem updF_append (a b : List (Nat × Option Chunk)) (h : HpF) : updF (a ++ b) h = updF b (updF a h) := by
 induction a generalizing h with
 | nil => rfl
 | cons p a ih => obtain ⟨x, c⟩ := p; simp only [List.cons_append, updF]; exact ih _
theorem updF_outOld {h : Tr Chunk} {f : Nat → Nat} : ∀ {l : List Nat} {h0 : HpF} {y : Nat}, y ∈ l → updF (outOld h f l) h0 y = (h.get y).map (renC f)
 | [], _, _, hy => by cases hy
 | x :: l, h0, y, hy => by
  simp only [outOld, updF]
  by_cases hyl : y ∈ l
  · exact updF_outOld hyl
  · have : y = x := by rcases List.mem_cons.1 hy with h1 | h1; exact h1; exact absurd h1 hyl
    subst this
    rw [updF_not (by rw [outOld_keys]; exact hyl)]
    simp only [if_true]
    cases h.get y <;> rfl
theorem updF_outNew {h : Tr Chunk} {f : Nat → Nat}   : ∀ {l : List Nat} {h0 : HpF} {x : Nat}, (∀ z ∈ l, ∃ c, h.get z = some c) → (∀ a ∈ l, ∀ b ∈ l, f a = f b → a = b) → x ∈ l → updF (outNew h f l) h0 (f x) = (h.get x).map (renC f)
 | [], _, _, _, _, hx => by cases hx
 | z :: l, h0, x, hl, hi, hx => by
  obtain ⟨c, hc⟩ := hl z (by simp)
  simp only [outNew, hc, updF]
  by_cases hxl : x ∈ l
  · exact updF_outNew (fun y hy => hl y (by simp [hy])) (fun a ha b hb => hi a (by simp [ha]) b (by simp [hb])) hxl
  · have : x = z := by rcases List.mem_cons.1 hx with h1 | h1; exact h1; exact absurd h1 hxl
    subst this
    rw [updF_not]
    · simp [hc]
    · rw [outNew_keys _ _ _ (fun y hy => hl y (by simp [hy]))]
      intro hm
      obtain ⟨b, hb, e⟩ := List.mem_map.1 hm
      have := hi b (by simp [hb]) x (by simp) e
      subst this
      exact hxl hb
theorem canonB_spec : ∀ (H : HpL) (i : Nat), canonB H i = true → ∀ (j : Nat) p, H[j]? = some p → p.1 = i + j
 | [], _, _, _, _, h => by simp at h
 | (x, c) :: l, i, hc, j, p, h => by
  simp only [canonB, Bool.and_eq_true] at hc
  cases j with
  | zero => simp at h; subst h; simpa using Nat.eq_of_beq_eq_true hc.1
  | succ j =>
   have := canonB_spec l (i + 1) hc.2 j p (by simpa using h)
   omega
theorem HpL_get_some : ∀ (H : HpL) (x : Nat) (c : Chunk), H.get x = some c → (x, c) ∈ H
 | [], _, _, h => by cases h
 | (y, d) :: l, x, c, h => by
  simp only [HpL.get] at h
  cases hb : Nat.beq y x with
  | true => rw [hb] at h; simp at h; subst h; rw [Nat.eq_of_beq_eq_true hb]; simp
  | false => rw [hb] at h; have := HpL_get_some l x c h; simp [this]
theorem canon_lt {H : HpL} (hc : canonB H 0 = true) {x : Nat} {c : Chunk} (h : H.get x = some c) : x < H.length := by
 have hm := HpL_get_some H x c h
 obtain ⟨j, hj, e⟩ := List.getElem_of_mem hm
 have := canonB_spec H 0 hc j _ (by rw [List.getElem?_eq_getElem hj, e])
 simp at this
 omega
theorem closedB_spec {m : Nat} : ∀ (H : HpL), closedB m H = true → ∀ p ∈ H, ∀ z ∈ namesC p.2, z < m
 | [], _, _, h => by cases h
 | (y, d) :: l, h, p, hp => by
  simp only [closedB, Bool.and_eq_true] at h
  rcases List.mem_cons.1 hp with rfl | hp
  · exact lowB_spec _ h.1
  · exact closedB_spec l h.2 p hp
theorem heapTr_get : ∀ (H : HpL) (i : Nat) (t : Tr Chunk) (y : Nat), canonB H i = true → i + H.length ≤ 1000000 → (heapTr H t).get y = if i ≤ y ∧ y < i + H.length then (H[y - i]?).map (·.2) else t.get y
 | [], i, t, y, _, _ => by
  simp only [heapTr, List.length_nil, Nat.add_zero]
  rw [if_neg (by omega)]
 | (x, c) :: l, i, t, y, hc, h => by
  simp only [canonB, Bool.and_eq_true] at hc
  have hx : x = i := Nat.eq_of_beq_eq_true hc.1
  subst hx
  simp only [heapTr, List.length_cons] at h ⊢
  rw [heapTr_get l (x + 1) _ y hc.2 (by omega), Tr.get_set 20 t x (some c) y (by omega)]
  by_cases hj : y = x
  · subst hj
    rw [if_neg (by omega), if_pos rfl, if_pos (by omega)]
    simp
  · by_cases h2 : x + 1 ≤ y ∧ y < x + 1 + l.length
    · rw [if_pos h2, if_pos (by omega)]
      have : y - x = (y - (x + 1)) + 1 := by omega
      rw [this]; simp
    · rw [if_neg h2, if_neg hj, if_neg (by omega)]
theorem HpL_get_canon : ∀ (H : HpL) (i y : Nat), canonB H i = true → H.get y = if i ≤ y ∧ y < i + H.length then (H[y - i]?).map (·.2) else none
 | [], i, y, _ => by
  simp only [HpL.get, List.length_nil, Nat.add_zero]
  rw [if_neg (by omega)]
 | (x, c) :: l, i, y, hc => by
  simp only [canonB, Bool.and_eq_true] at hc
  have hx : x = i := Nat.eq_of_beq_eq_true hc.1
  subst hx
  simp only [HpL.get, List.length_cons]
  by_cases hj : x = y
  · subst hj
    rw [nb_t rfl, if_pos (by omega)]
    simp
  · rw [nb_f hj]
    simp only [cond_false]
    rw [HpL_get_canon l (x + 1) y hc.2]
    by_cases h2 : x + 1 ≤ y ∧ y < x + 1 + l.length
    · rw [if_pos h2, if_pos (by omega)]
      have : y - x = (y - (x + 1)) + 1 := by omega
      rw [this]; simp
    · rw [if_neg h2, if_neg (by omega)]
theorem heapTr_init {H : HpL} (hc : canonB H 0 = true) (h : H.length ≤ 1000000) : (heapTr H .lf).get = H.get := by
 funext y
 rw [heapTr_get H 0 .lf y hc (by omega), HpL_get_canon H 0 y hc]
 rfl
mutual
theorem renS_fix (f : Nat → Nat) : ∀ (v : SV), (∀ x ∈ namesS v, f x = x) → renS f v = v
 | .ptr x o, h => by simp only [renS]; rw [h x (by simp [namesS])]
 | .sl x sz o l, h => by simp only [renS]; rw [h x (by simp [namesS])]
 | .qs x sz o l, h => by simp only [renS]; rw [h x (by simp [namesS])]
 | .qp x sz o l, h => by simp only [renS]; rw [h x (by simp [namesS])]
 | .mp x, h => by simp only [renS]; rw [h x (by simp [namesS])]
 | .yl x, h => by simp only [renS]; rw [h x (by simp [namesS])]
 | .fn k a b, h => by
  simp only [namesS, List.mem_append] at h
  simp only [renS]
  rw [renL_fix f a (fun x hx => h x (.inl hx)), renL_fix f b (fun x hx => h x (.inr hx))]
 | .iface t v, h => by simp only [renS]; rw [renS_fix f v (by simpa [namesS] using h)]
 | .agg cs, h => by simp only [renS]; rw [renL_fix f cs (by simpa [namesS] using h)]
 | .tup cs, h => by simp only [renS]; rw [renL_fix f cs (by simpa [namesS] using h)]
 | .junk, _ | .pnn _ _, _ | .opq _, _ | .emp, _ | .bool _, _ | .int _ _, _ | .str _, _ | .nilp, _ | .pel _ _, _ | .nils, _ | .psl _ _, _ | .nilm, _ | .nilf, _ | .nili, _ => rfl
theorem renL_fix (f : Nat → Nat) : ∀ (vs : List SV), (∀ x ∈ namesL vs, f x = x) → renL f vs = vs
 | [], _ => rfl
 | v :: vs, h => by
  simp only [namesL, List.mem_append] at h
  simp only [renL]
  rw [renS_fix f v (fun x hx => h x (.inl hx)), renL_fix f vs (fun x hx => h x (.inr hx))]
end
theorem renC_fix (f : Nat → Nat) (c : Chunk) (h : ∀ x ∈ namesC c, f x = x) : renC f c = c := by
 cases c with
 | cells T vs => simp only [renC]; rw [renL_fix f vs h]
 | seq e es => rfl
 | loopr st vs ps asg bdy => simp only [renC]; rw [renL_fix f vs h]
 | mpc ks vs => simp only [renC]; rw [renL_fix f ks (fun x hx => h x (List.mem_append.2 (.inl hx))), renL_fix f vs (fun x hx => h x (List.mem_append.2 (.inr hx)))]
 | mpb kd kvs => rfl
theorem finish_gen {H : HpL} (c1 : canonB H 0 = true) (c2 : closedB H.length H = true) {θ : Th} {Im : Nat → Prop} {w : World} (hfr : ∀ x, H.length ≤ x → θ x = none) {s2 : St} (hm2 : s2.m = H.length) (hsame : ∀ x, x < H.length → s2.hp.get x = H.get x ∨ x ∈ s2.dirty)
  (hdl : ∀ x ∈ s2.dirty, x < H.length) {vv : SV} {ns : List Nat} (hre : reachNew s2.hp s2.m 2000 (namesS vv ++ dirtyNames s2.hp s2.dirty) [] = some ns) {w' : World} {Im' : Nat → Prop} {θ' : Th} (hH2 : HRel P ω w' Im' θ' s2.hp.get)
  (hext : Ext (fun x => H.length ≤ x) H.get w Im θ s2.hp.get w' Im' θ') {u : Value} (hvu : VRel P ω w' Im' θ' vv u) :
  ∃ θ3, Ext (fun x => H.length ≤ x) H.get w Im θ (updF (outOld s2.hp (outName ns H.length) s2.dirty ++ outNew s2.hp (outName ns H.length) ns) H.get) w' Im' θ3 ∧ VRel P ω w' Im' θ3 (renS (outName ns H.length) vv) u ∧
   HRel P ω w' Im' θ3 (updF (outOld s2.hp (outName ns H.length) s2.dirty ++ outNew s2.hp (outName ns H.length) ns) H.get) ∧
   ∀ y c b N, updF (outOld s2.hp (outName ns H.length) s2.dirty ++ outNew s2.hp (outName ns H.length) ns) H.get y = some c → θ3 y = some (b, N) → ∃ x c0, s2.hp.get x = some c0 ∧ θ' x = some (b, N) := by
 obtain ⟨n1, n2, n3, n4, -⟩ := reachNew_spec _ _ _ _ hre List.nodup_nil (fun x hx => by cases hx) (fun x hx => by cases hx)
 rw [hm2] at n2 n4
 simp only [hm2] at n3
 -- the names behind the call
 let θ2 : Th := fun y => if y < H.length then θ' y else match ns[y - H.length]? with
  | some x => θ' x
  | none => none
 generalize hfd : outName ns H.length = f
 have hf1 : ∀ x, x < H.length → f x = x := by
  intro x hx
  rw [← hfd]
  have : Nat.blt x H.length = true := by rw [Nat.blt_eq]; exact hx
  simp [outName, this]
 have hf2 : ∀ x, x ∈ ns → f x = H.length + idxN ns x := by
  intro x hx
  rw [← hfd]
  have : Nat.blt x H.length = false := by
   cases hh : Nat.blt x H.length with
   | false => rfl
   | true => rw [Nat.blt_eq] at hh; have := (n2 x hx).1; omega
  simp [outName, this]
 have hθ2 : ∀ x, (x < H.length ∨ x ∈ ns) → θ2 (f x) = θ' x := by
  intro x hx
  by_cases hlt : x < H.length
  · rw [hf1 x hlt]; simp [θ2, hlt]
  · have hxn : x ∈ ns := by rcases hx with h | h; exact absurd h hlt; exact h
    rw [hf2 x hxn]
    have hs := (idxN_spec ns x hxn).2
    have h1 : ¬ H.length + idxN ns x < H.length := by omega
    have h2 : H.length + idxN ns x - H.length = idxN ns x := by omega
    simp only [θ2, if_neg h1, h2, hs]
 have hlow : ∀ y, y < H.length → θ2 y = θ' y := fun y hy => by simp [θ2, hy]
 have hcl : ∀ y c, H.get y = some c → ∀ z ∈ namesC c, z < H.length := fun y c hy => closedB_spec H c2 (y, c) (HpL_get_some H y c hy)
 generalize hU : outOld s2.hp f s2.dirty ++ outNew s2.hp f ns = U
 -- what the heap holds
 have hUget : ∀ y c, updF U H.get y = some c → ∃ x c0, (x < H.length ∨ x ∈ ns) ∧ f x = y ∧ s2.hp.get x = some c0 ∧ c = renC f c0 ∧ ∀ z ∈ namesC c0, z < H.length ∨ z ∈ ns := by
  intro y c hy
  rw [← hU, updF_append] at hy
  by_cases hyk : y ∈ (outNew s2.hp f ns).map (·.1)
  · rw [outNew_keys _ _ _ (fun x hx => (n2 x hx).2)] at hyk
    obtain ⟨x, hx, rfl⟩ := List.mem_map.1 hyk
    rw [updF_outNew (fun z hz => (n2 z hz).2) (fun a ha b hb e => by
     rw [hf2 a ha, hf2 b hb] at e
     have e1 := (idxN_spec ns a ha).2
     have e2 := (idxN_spec ns b hb).2
     have : idxN ns a = idxN ns b := by omega
     rw [this, e2] at e1
     exact (Option.some.inj e1).symm) hx, Option.map_eq_some_iff] at hy
    obtain ⟨c0, hc0, rfl⟩ := hy
    exact ⟨x, c0, .inr hx, rfl, hc0, rfl, n3 x hx c0 hc0⟩
  · rw [updF_not hyk] at hy
    by_cases hyd : y ∈ s2.dirty
    · rw [updF_outOld hyd, Option.map_eq_some_iff] at hy
      obtain ⟨c0, hc0, rfl⟩ := hy
      have hyl := hdl y hyd
      refine ⟨y, c0, .inl hyl, hf1 y hyl, hc0, rfl, fun z hz => n4 z ?_⟩
      exact List.mem_append.2 (.inr (dirtyNames_mem hyd hc0 z hz))
    · rw [updF_not (by rw [outOld_keys]; exact hyd)] at hy
      have hyl := canon_lt c1 hy
      have hs2y : s2.hp.get y = some c := by
       rcases hsame y hyl with h | h
       · rw [h, hy]
       · exact absurd h hyd
      have hcz := hcl y c hy
      refine ⟨y, c, .inl hyl, hf1 y hyl, hs2y, ?_, fun z hz => .inl (hcz z hz)⟩
      exact (renC_fix f c (fun z hz => hf1 z (hcz z hz))).symm
 refine ⟨θ2, ?_, ?_, ?_, ?_⟩
 · refine ⟨?_, ?_, hext.imUp, hext.size, hext.keep, hext.imNew, ?_, hext.os, hext.output, hext.tape⟩
   · intro x hx
     rw [hlow x (by omega)]
     exact hext.thOld x hx
   · intro x p hp
     have hxl : x < H.length := by
      rcases Nat.lt_or_ge x H.length with h | h
      · exact h
      · rw [hfr x h] at hp; cases hp
     rw [hlow x hxl]
     exact hext.thUp x p hp
   · intro y c b N hy hb
     obtain ⟨x, c0, hx, rfl, hc0, -, -⟩ := hUget y c hy
     rw [hθ2 x hx] at hb
     exact hext.ownNew x c0 b N hc0 hb
 · refine hvu.ren f (fun x hx p hp => ?_)
   rw [hθ2 x (n4 x (List.mem_append.2 (.inl hx)))]
   exact hp
 · refine ⟨?_, ?_, ?_, hH2.im⟩
   · intro y c hy
     obtain ⟨x, c0, hx, rfl, hc0, rfl, hz⟩ := hUget y c hy
     exact (hH2.at_ x c0 hc0).ren f (fun z hzm p hp => by rw [hθ2 z (hz z hzm)]; exact hp) (hθ2 x hx)
   · intro y y' c c' b N N2 hy hy' hb hb'
     obtain ⟨x, c0, hx, rfl, hc0, -, -⟩ := hUget y c hy
     obtain ⟨x', c0', hx', rfl, hc0', -, -⟩ := hUget y' c' hy'
     rw [hθ2 x hx] at hb
     rw [hθ2 x' hx'] at hb'
     rw [hH2.inj x x' c0 c0' b N N2 hc0 hc0' hb hb']
   · intro y c b N hy hb
     obtain ⟨x, c0, hx, rfl, hc0, -, -⟩ := hUget y c hy
     rw [hθ2 x hx] at hb
     exact hH2.own x c0 b N hc0 hb
 · intro y c b N hy hb
   obtain ⟨x, c0, hx, rfl, hc0, -, -⟩ := hUget y c hy
   rw [hθ2 x hx] at hb
   exact ⟨x, c0, hc0, hb⟩
theorem body_valid {κ : Nat → Option CSumm} (hκ : KOk P κ) (hmix : P.follows .mixedOrders = true) {f : FuncId} {fn : Func} (hf : P.funcs[f]? = some fn) {ι : Nat → Bool} {sp : Bool} {fuel : Nat} : ValidC P f (bodyC P κ ι sp fuel fn) := by
 intro args H v ups hrun _ ω θ Im w us hargs hH hfr
 unfold bodyC at hrun
 cases hb : fn.body with
 | none => rw [hb] at hrun; simp [crun] at hrun
 | some c =>
  rw [hb] at hrun
  simp only [] at hrun
  cases hc : canonB H 0 && closedB H.length H && Nat.ble args.length fn.ntmps && Nat.blt fn.ntmps 16000 && Nat.blt H.length 1000000 with
  | false => rw [hc] at hrun; simp [crun] at hrun
  | true =>
   rw [hc] at hrun
   simp only [cond_true] at hrun
   simp only [Bool.and_eq_true] at hc
   obtain ⟨⟨⟨⟨c1, c2⟩, c3⟩, c4⟩, c5⟩ := hc
   have hal : args.length ≤ fn.ntmps := by rwa [Nat.ble_eq] at c3
   have hnt : fn.ntmps < 16000 := by rwa [Nat.blt_eq] at c4
   have hHl : H.length < 1000000 := by rwa [Nat.blt_eq] at c5
   have hhp : (initSt sp fn args H).hp.get = H.get := heapTr_init c1 (by omega)
   have hs0 : StOk { initSt sp fn args H with tm := .lf, size := 0 } := by
    refine ⟨by show 0 < 16000; omega, hHl, fun t _ => rfl, ?_, Nat.le_refl _⟩
    intro x c hx
    have hx' : (initSt sp fn args H).hp.get x = some c := hx
    rw [hhp] at hx'
    exact canon_lt c1 hx'
   have hst : StOk (initSt sp fn args H) := enter_ok hs0 hal hnt
   obtain ⟨e, s2, hs2, hcomes, hfin⟩ := exec_ok (den := crun) rfl hκ hmix fuel c _ _ _ hst hrun
   have hm2 : s2.m = H.length := hcomes.later.m
   have he : ∀ id, e ≠ .exit id := by
    rintro id rfl
    simp [crun] at hfin
   have hfin' : crun (finishC P fn s2) = some (v, ups) := by
    cases e with
    | exit id => exact absurd rfl (he id)
    | normal => exact hfin
    | ret => exact hfin
   unfold finishC at hfin'
   cases hrs : resultsS P s2 fn.results.toList with
   | none => rw [hrs] at hfin'; simp [crun] at hfin'
   | some vs =>
    rw [hrs] at hfin'
    simp only [] at hfin'
    cases hre : reachNew s2.hp s2.m 2000 (namesS (oneOrTup vs) ++ dirtyNames s2.hp s2.dirty) [] with
    | none => rw [hre] at hfin'; simp [crun] at hfin'
    | some ns =>
      rw [hre] at hfin'
      simp only [crun, Option.some.injEq, Prod.mk.injEq] at hfin'
      rw [hm2] at hfin'
      obtain ⟨rfl, rfl⟩ := hfin'
      have hfr0 : Fr (initSt sp fn args H).nx θ (initSt sp fn args H).hp.get := by
       intro x hx
       have hx' : H.length ≤ x := hx
       refine ⟨hfr x hx', ?_⟩
       rw [hhp]
       cases hg : H.get x with
       | none => rfl
       | some c => have := canon_lt c1 hg; omega
      have sim0 := enter_sim (P := P) hs0 (args := args) (us := us) hal hnt (w := w) (Im := Im) (θ := θ) (by show HRel P ω w Im θ (initSt sp fn args H).hp.get; rw [hhp]; exact hH) hfr0 hargs
      refine (callsIn_wide (n := 0)).1 (body_calls (ρ := none) hf hb he hcomes sim0 hrs (fun u w' Im' θ' hH2 _ hE hvu => ?_))
      have hsame : ∀ x, x < H.length → s2.hp.get x = H.get x ∨ x ∈ s2.dirty := by
       intro x hx
       have := hcomes.later.same x hx
       rwa [hhp] at this
      have hdl : ∀ x ∈ s2.dirty, x < H.length := by
       intro x hx
       rcases hcomes.later.low x hx with h | h
       · cases h
       · exact h
      have hext : Ext (fun x => H.length ≤ x) H.get w Im θ s2.hp.get w' Im' θ' := by
       rw [← hhp]; exact hE
      obtain ⟨θ3, g1, g2, g3, -⟩ := finish_gen c1 c2 hfr hm2 hsame hdl hre hH2 hext hvu
      exact ⟨u, θ3, Im', rfl, g1, g2, g3⟩
end Go.Am
/- The abstract machine: tables of what is known of callees; closed runs. -/
namespace Go.Am
variable {P : Program} {ω : Nat → Value}
def noNum (P : Program) : Prop := (P.funcs.all fun fn => !(fn.name == "runtime.NumGoroutine")) = true
theorem noNum_at (h : noNum P) {f : FuncId} {fn : Func} (hf : P.funcs[f]? = some fn) : (fn.name == "runtime.NumGoroutine") = false := by
 have := Array.all_eq_true'.1 h fn (Array.mem_of_getElem? hf)
 simpa using this
def tbl : List (Nat × CSumm) → Nat → Option CSumm
 | [], _ => none
 | (g, s) :: l, f => bif Nat.beq g f then some s else tbl l f
structure Known (P : Program) (f : FuncId) (s : CSumm) : Prop where
 fn : ∃ fn, P.funcs[f]? = some fn ∧ (fn.name == "runtime.NumGoroutine") = false ∧ fn.body.isNone = false
 ok : ValidC P f s
theorem tbl_nil : KOk P (tbl []) := ⟨(fun _ _ h => by cases h), (fun _ _ h => by cases h)⟩
theorem tbl_cons {g : Nat} {s : CSumm} {l : List (Nat × CSumm)} (h1 : Known P g s) (h2 : KOk P (tbl l)) : KOk P (tbl ((g, s) :: l)) := by
 constructor
 · intro f t ht
   simp only [tbl] at ht
   cases hb : Nat.beq g f with
   | true => rw [hb] at ht; have := Nat.eq_of_beq_eq_true hb; subst this; exact h1.fn
   | false => rw [hb] at ht; exact h2.fn f t ht
 · intro f t ht
   simp only [tbl] at ht
   cases hb : Nat.beq g f with
   | true => rw [hb] at ht; have := Nat.eq_of_beq_eq_true hb; subst this; simp at ht; subst ht; exact h1.ok
   | false => rw [hb] at ht; exact h2.ok f t ht
theorem known_of_bodyC (hn : noNum P) (hmix : P.follows .mixedOrders = true) {κ : Nat → Option CSumm} (hκ : KOk P κ) {f : FuncId} {fn : Func} (hf : P.funcs[f]? = some fn) (hb : fn.body.isNone = false) {ι : Nat → Bool} {sp : Bool} {fuel : Nat} {s : CSumm}
  (hs : ∀ args H v ups, crun (s args H) = some (v, ups) → crun (bodyC P κ ι sp fuel fn args H) = some (v, ups)) : Known P f s :=
 ⟨⟨fn, hf, noNum_at hn hf, hb⟩, fun args H v ups hr => body_valid hκ hmix hf args H v ups (hs args H v ups hr)⟩
def inl (κ : Nat → Option CSumm) (f : Nat) : Bool := match κ f with
 | some _ => false
 | none => true
def hasBody (P : Program) (f : Nat) : Bool := match P.funcs[f]? with
 | some fn => !fn.body.isNone
 | none => false
end Go.Am
/- The abstract machine: from a call's outcome to a row's statement. -/
namespace Go.Am
open Go.ChangeShapes Go.WideShapes
variable {P : Program} {ω : Nat → Value}
section
variable {H : Type} {enc : TypeId × Value → H} {w : World} {base : Nat} {spare : Nat → Bool} {held : Bool}
theorem post_kept {f : Func} {s : ChangeSpec} {apart fresh handsOn again : Bool} {W W' : World} {args : Array Value} {v : Value} {ds gs : List (DataW H)} {before pa pv : List MemPlace}
  (hW : DataW.Whole enc P f.params.toList s.vars apart W args.toList ds gs before)
  (hres : ∀ (b : Nat) (sp : Nat → Bool) (hd : Bool), DataW.TrodAll enc P W' b sp hd f.resultTypes.toList (v.resultList f.resultTypes.size) (s.fn H (ds ++ gs)).results [])
  (hargs : ∀ sp : Nat → Bool, (∀ p ∈ before, sp p.block = true) → DataW.TrodAll enc P W' 0 sp true f.params.toList args.toList (s.fn H (ds ++ gs)).args pa)
  (hvars : ∀ sp : Nat → Bool, (∀ p ∈ before, sp p.block = true) → DataW.TrodVars enc P W' sp s.vars (s.fn H (ds ++ gs)).vars pv)
  (hps : before = pa ++ pv) (hk : W.keptBut W' (· ∈ before)) (hfz : ∀ a : Addr, a.block < W.heap.size → W'.frozen? a = W.frozen? a)
  (hok : ∀ (j : Nat) (t : TypeId) (r : Value), f.resultTypes[j]? = some t → (v.resultList f.resultTypes.size)[j]? = some r → Value.okWide P W' .any 0 t r) :
  s.post enc P f apart fresh handsOn again W args v W' := by
 have hold : ∀ p ∈ before, (fun b => decide (b < W.heap.size)) p.block = true := fun p hp => by simpa using hW.lt p hp
 have hlt : ∀ p ∈ before, p.block < W.heap.size := fun p hp => hW.lt p hp
 refine ⟨ds, gs, before, [], pa, pv, hW, hres _ _ _, hargs _ hold, hvars _ hold, World.keptBut_mono (fun p hp => ⟨hp, ?_⟩) hk, fun _ => ?_⟩
 · rw [hps, List.mem_append] at hp
   exact Or.inr hp
 · obtain ⟨_, _, _, _, _, hz, hn⟩ := hW
   refine ⟨hok, _, _, ([] ++ pa) ++ pv, ⟨[] ++ pa, pv, trodAll_append (hargs _ (fun _ _ => rfl)) (hres _ _ _), hvars _ (fun _ _ => rfl), rfl, ?_, ?_⟩, ?_⟩
   · intro b off hp
     have hp' : MemPlace.cell b off ∈ before := by rw [hps]; simpa using hp
     rw [hfz _ (hlt _ hp')]
     exact hz b off hp'
   · intro ha
     have := hn ha
     rw [hps] at this
     simpa using this
   · intro p hp _
     rw [hps]
     simpa using hp
end
end Go.Am
namespace Go.Am
variable {P : Program} {ω : Nat → Value}
end Go.Am
/- Rows: data of bools, integers, strings, structs, arrays and slices, opened. -/
namespace Go.Am
open Go.ChangeShapes Go.WideShapes
section
variable {P : Program}
inductive All2 {α β : Type} (R : α → β → Prop) : List α → List β → Prop
 | nil : All2 R [] []
 | cons {a : α} {b : β} {l : List α} {m : List β} : R a b → All2 R l m → All2 R (a :: l) (b :: m)
theorem All2.append {α β : Type} {R : α → β → Prop} : ∀ {l : List α} {m : List β} {l' : List α} {m' : List β}, All2 R l m → All2 R l' m' → All2 R (l ++ l') (m ++ m')
 | _, _, _, _, .nil, h => h
 | _, _, _, _, .cons h t, h' => .cons h (t.append h')
theorem All2.len {α β : Type} {R : α → β → Prop} : ∀ {l : List α} {m : List β}, All2 R l m → l.length = m.length
 | _, _, .nil => rfl
 | _, _, .cons _ t => by simp [t.len]
theorem All2.mono {α β : Type} {R S : α → β → Prop} (hRS : ∀ a b, R a b → S a b) : ∀ {l : List α} {m : List β}, All2 R l m → All2 S l m
 | _, _, .nil => .nil
 | _, _, .cons h t => .cons (hRS _ _ h) (t.mono hRS)
theorem All2.cons_inv {α β : Type} {R : α → β → Prop} {a : α} {l : List α} {m : List β} (h : All2 R (a :: l) m) : ∃ b m', m = b :: m' ∧ R a b ∧ All2 R l m' := by
 cases h with | cons h t => exact ⟨_, _, rfl, h, t⟩
theorem All2.nil_inv {α β : Type} {R : α → β → Prop} {m : List β} (h : All2 R ([] : List α) m) : m = [] := by cases h; rfl
inductive OkV (P : Program) : TypeId → SV → Prop
 | bool {t : TypeId} {b : Bool} : P.underlying t = some .bool → OkV P t (.bool b)
 | int {t : TypeId} {k : IntKind} {n : Int} : P.underlying t = some (.int k) → (Lit.int k n).wf = true → OkV P t (.int k n)
 | str {t : TypeId} {l : List UInt8} : P.underlying t = some .string → l.length ≤ maxLen → OkV P t (.str l)
 | sl {t e : TypeId} {es : List SV} : P.underlying t = some (.slice e) → es.length ≤ maxLen → (∀ v ∈ es, OkV P e v) → OkV P t (.psl e es)
 | agg {t : TypeId} {cs : List SV} : isAggT P t = true → All2 (OkV P) (leaves P 40 t) cs → OkV P t (.agg cs)
def fieldsFlat (P : Program) (rec : TypeId → Bool) : List Field → Nat → Nat → Bool
 | [], o, n => Nat.beq o n
 | f :: fs, o, n => Nat.beq f.offset o && rec f.type && fieldsFlat P rec fs (o + P.cellsOf f.type) n
def flatT (P : Program) : Nat → TypeId → Bool
 | 0, _ => false
 | d + 1, t =>
  match P.underlying t with
  | some .bool => Nat.beq (P.cellsOf t) 1
  | some (.int _) => Nat.beq (P.cellsOf t) 1
  | some .string => Nat.beq (P.cellsOf t) 1
  | some (.slice e) => Nat.beq (P.cellsOf t) 1 && Nat.blt 0 (P.cellsOf e) && flatT P d e
  | some (.struct fs) => fieldsFlat P (flatT P d) fs.toList 0 (P.cellsOf t)
  | some (.array n e) => Nat.beq (n * P.cellsOf e) (P.cellsOf t) && flatT P d e
  | _ => false
theorem ofNat_beq {a b : Nat} (h : Nat.beq a b = true) : a = b := Nat.eq_of_beq_eq_true h
end
section
variable {P : Program} {H : Type} {enc : TypeId × Value → H} {w : World} {base : Nat} {spare : Nat → Bool} {held : Bool}
abbrev Old (w : World) : Nat → Prop := fun b => b < w.heap.size
def Opens (P : Program) (w : World) (ts : List TypeId) (cs : List Value) : Prop := ∃ ss, All2 (OkV P) ts ss ∧ All2 (fun s c => VRel P om0 w (Old w) noTh s c) ss cs
theorem Opens.append {ts ts' : List TypeId} {cs cs' : List Value} : Opens P w ts cs → Opens P w ts' cs' → Opens P w (ts ++ ts') (cs ++ cs')
 | ⟨ss, h1, h2⟩, ⟨ss', h1', h2'⟩ => ⟨ss ++ ss', h1.append h1', h2.append h2'⟩
theorem Opens.nil : Opens P w [] [] := ⟨[], .nil, .nil⟩
theorem Opens.one {t : TypeId} {s : SV} {c : Value} (h1 : OkV P t s) (h2 : VRel P om0 w (Old w) noTh s c) : Opens P w [t] [c] := ⟨[s], .cons h1 .nil, .cons h2 .nil⟩
theorem all2_lrel {ss : List SV} {cs : List Value} {θ : Th} {Im : Nat → Prop} : All2 (fun s c => VRel P om0 w Im θ s c) ss cs → LRel P om0 w Im θ ss cs := by
 intro h
 induction h with
 | nil => exact ⟨rfl, fun i v u h => by simp at h⟩
 | cons h _ ih =>
  refine ⟨by simp [ih.len], fun i v u hv hu => ?_⟩
  cases i with
  | zero => simp at hv hu; subst hv; subst hu; exact h
  | succ i => exact ih.at_ i v u (by simpa using hv) (by simpa using hu)
def valOf (P : Program) (t : TypeId) (cs : List Value) : Value := if isAggT P t then .agg cs.toArray else match cs with
 | [c] => c
 | _ => .agg cs.toArray
theorem expandFrom_self {P : Program} (v : List SV) : ∀ (ts : List TypeId) (cs : List SV) (j : Nat), (∀ (i : Nat) (u : TypeId) (c : SV), ts[i]? = some u → cs[i]? = some c → expandLeaf P u c = c) → ts.length = cs.length → (∀ i : Nat, v.getD (j + i) .junk = cs.getD i .junk) → expandFrom P (.agg v) ts j = cs
 | [], [], _, _, _, _ => rfl
 | [], _ :: _, _, _, h, _ => by simp at h
 | _ :: _, [], _, _, h, _ => by simp at h
 | u :: us, c :: cs, j, h1, h2, h3 => by
  have e0 := h3 0
  simp only [Nat.add_zero, List.getD_cons_zero] at e0
  have := h1 0 u c (by simp) (by simp)
  simp only [expandFrom, cellAt, e0, this]
  congr 1
  exact expandFrom_self v us cs (j + 1) (fun i u' c' hu hc => h1 (i + 1) u' c' (by simpa using hu) (by simpa using hc)) (by simpa using h2) (fun i => by
   have := h3 (i + 1)
   rw [show j + (i + 1) = j + 1 + i by omega] at this
   simpa using this)
theorem all2_at {α β : Type} {R : α → β → Prop} : ∀ {l : List α} {m : List β}, All2 R l m → ∀ (i : Nat) (a : α) (b : β), l[i]? = some a → m[i]? = some b → R a b
 | _, _, .nil, i, a, b, h, _ => by simp at h
 | _, _, .cons h t, i, a, b, ha, hb => by
  cases i with
  | zero => simp at ha hb; subst ha; subst hb; exact h
  | succ i => exact all2_at t i a b (by simpa using ha) (by simpa using hb)
theorem OkV.leaf {t : TypeId} {v : SV} (h : OkV P t v) (ha : isAggT P t = false) : expandLeaf P t v = v := by
 cases h with
 | bool h => simp [expandLeaf, h, asB]
 | int h _ => simp [expandLeaf, h, asI]
 | str h _ => simp [expandLeaf, h, asS]
 | sl h _ _ => simp [expandLeaf, h, asL]
 | agg h _ => rw [h] at ha; cases ha
theorem isAgg_leaf {t : TypeId} (h : isAggT P t = false) (d : Nat) : leaves P (d + 1) t = [t] := by
 unfold isAggT at h
 unfold leaves
 split at h
 · cases h
 · cases h
 · rename_i h1 h2
   first
   | rfl
   | (split
      · rename_i fs hh; exact absurd hh (h1 fs)
      · rename_i n e hh; exact absurd hh (h2 n e)
      · rfl)
theorem repL_mem {α : Type} {x : α} : ∀ {n : Nat} {l : List α}, x ∈ repL n l → x ∈ l
 | 0, _, h => by simp [repL] at h
 | n + 1, l, h => by
  simp only [repL, List.mem_append] at h
  rcases h with h | h
  · exact h
  · exact repL_mem h
theorem leaves_leaf : ∀ (d : Nat) (t u : TypeId), u ∈ leaves P d t → isAggT P u = false
 | 0, t, u, h => by simp [leaves] at h
 | d + 1, t, u, h => by
  unfold leaves at h
  split at h
  · rw [List.mem_flatMap] at h
    obtain ⟨f, _, hf⟩ := h
    exact leaves_leaf d _ _ hf
  · exact leaves_leaf d _ _ (repL_mem h)
  · rename_i h1 h2
    simp only [List.mem_singleton] at h
    subst h
    unfold isAggT
    split
    · rename_i fs hh; exact absurd hh (h1 fs)
    · rename_i n e hh; exact absurd hh (h2 n e)
    · rfl
theorem OkV.expand {t : TypeId} {v : SV} (h : OkV P t v) : Go.Am.expand P t v = v := by
 cases hb : isAggT P t with
 | false => simp only [Go.Am.expand, hb, cond_false]; exact h.leaf hb
 | true =>
  cases h with
  | bool h => simp [isAggT, h] at hb
  | int h _ => simp [isAggT, h] at hb
  | str h _ => simp [isAggT, h] at hb
  | sl h _ _ => simp [isAggT, h] at hb
  | agg _ h =>
   simp only [Go.Am.expand, hb, cond_true]
   congr 1
   refine expandFrom_self _ _ _ 0 (fun i u c hu hc => ?_) h.len (fun i => by simp)
   exact (all2_at h i u c hu hc).leaf (leaves_leaf 40 t u (List.mem_of_getElem? hu))
theorem opens_val {t : TypeId} {cs : List Value} (h : Opens P w (leaves P 40 t) cs) : ∃ s, OkV P t s ∧ VRel P om0 w (Old w) noTh s (valOf P t cs) := by
 obtain ⟨ss, h1, h2⟩ := h
 cases hb : isAggT P t with
 | true =>
  refine ⟨.agg ss, .agg hb h1, ?_⟩
  simp only [valOf, hb, if_true]
  have hl := all2_lrel h2
  exact .agg (by simp [hl.len]) (fun i v u hv hu => hl.at_ i v u hv (by simpa using hu))
 | false =>
  rw [isAgg_leaf hb 39] at h1
  obtain ⟨s, m, rfl, h3, h4⟩ := h1.cons_inv
  obtain rfl := h4.nil_inv
  obtain ⟨c, m, rfl, h5, h6⟩ := h2.cons_inv
  obtain rfl := h6.nil_inv
  exact ⟨s, h3, by simpa [valOf, hb] using h5⟩
theorem scal_cells {t : TypeId} {s : SV} {c : Value} (h1 : OkV P t s) (h2 : VRel P om0 w (Old w) noTh s c) (hb : isAggT P t = false) : c.cells = #[c] := by
 cases h1 with
 | bool h => cases h2; rfl
 | int h _ => cases h2; rfl
 | str h _ => cases h2; rfl
 | sl h _ _ => cases h2; rfl
 | agg h _ => rw [h] at hb; cases hb
theorem opens_cells {t : TypeId} {cs : List Value} (h : Opens P w (leaves P 40 t) cs) : (valOf P t cs).cells.toList = cs := by
 cases hb : isAggT P t with
 | true => simp [valOf, hb, Value.cells]
 | false =>
  obtain ⟨ss, h1, h2⟩ := h
  rw [isAgg_leaf hb 39] at h1
  obtain ⟨s, m, rfl, h3, h4⟩ := h1.cons_inv
  obtain rfl := h4.nil_inv
  obtain ⟨c, m, rfl, h5, h6⟩ := h2.cons_inv
  obtain rfl := h6.nil_inv
  simp [valOf, hb, scal_cells h3 h5 hb]
theorem opens_flds {rd : TypeId → List Value → Prop} {d k n : Nat} {cs : List Value} (hcs : cs.length = n) (hrd : ∀ t cs, flatT P d t = true → rd t cs → Opens P w (leaves P k t) cs) : ∀ (fs : List Field) (o : Nat), fieldsFlat P (flatT P d) fs o n = true →
  (∀ f ∈ fs, rd f.type ((cs.drop f.offset).take (P.cellsOf f.type))) → o ≤ n → Opens P w (fs.flatMap fun f => leaves P k f.type) (cs.drop o)
 | [], o, h, _, _ => by
  have : o = n := ofNat_beq h
  have : cs.drop o = [] := by rw [List.drop_eq_nil_iff]; omega
  rw [this]
  exact .nil
 | f :: fs, o, h, hx, ho => by
  simp only [fieldsFlat, Bool.and_eq_true] at h
  obtain ⟨⟨h1, h2⟩, h3⟩ := h
  have e1 : f.offset = o := ofNat_beq h1
  have hf := hrd _ _ h2 (hx f (by simp))
  rw [e1] at hf
  have hle : o + P.cellsOf f.type ≤ n := by
   clear hx hf hrd e1 h1 h2
   have key : ∀ (fs : List Field) (o : Nat), fieldsFlat P (flatT P d) fs o n = true → o ≤ n := by
    intro fs
    induction fs with
    | nil => intro o h; exact Nat.le_of_eq (ofNat_beq h)
    | cons g gs ih =>
     intro o h
     simp only [fieldsFlat, Bool.and_eq_true] at h
     have := ih _ h.2
     omega
   exact key fs _ h3
  have := opens_flds hcs hrd fs (o + P.cellsOf f.type) h3 (fun g hg => hx g (by simp [hg])) hle
  have e2 : cs.drop o = (cs.drop o).take (P.cellsOf f.type) ++ cs.drop (o + P.cellsOf f.type) := by
   rw [← List.drop_drop, List.take_append_drop]
  rw [e2, List.flatMap_cons]
  exact hf.append this
theorem opens_elems {t : TypeId} {k m : Nat} {cs : List Value} (hx : ∀ i, i < m → Opens P w (leaves P k t) ((cs.drop (i * P.cellsOf t)).take (P.cellsOf t))) : ∀ j, j ≤ m → cs.length = m * P.cellsOf t → Opens P w (repL j (leaves P k t)) (cs.drop ((m - j) * P.cellsOf t)) := by
 intro j
 induction j with
 | zero =>
  intro _ hl
  have : cs.drop ((m - 0) * P.cellsOf t) = [] := by rw [List.drop_eq_nil_iff]; simp [hl]
  rw [this]
  exact .nil
 | succ j ih =>
  intro hj hl
  have h1 := hx (m - (j + 1)) (by omega)
  have h2 := ih (by omega) hl
  have e2 : cs.drop ((m - (j + 1)) * P.cellsOf t) = (cs.drop ((m - (j + 1)) * P.cellsOf t)).take (P.cellsOf t) ++ cs.drop ((m - j) * P.cellsOf t) := by
   have : (m - j) * P.cellsOf t = (m - (j + 1)) * P.cellsOf t + P.cellsOf t := by
    rw [← Nat.succ_mul]; congr 1; omega
   rw [this, ← List.drop_drop, List.take_append_drop]
  rw [e2]
  exact h1.append h2
theorem addr_add (b o n : Nat) : (⟨b, o, none⟩ : Addr).add n = ⟨b, o + n, none⟩ := by
 unfold Addr.add
 split
 · rename_i h; subst h; rfl
 · rfl
theorem open_flat : ∀ (d : Nat) (t : TypeId), flatT P d t = true → d ≤ 40 → ∀ (k : Nat), d ≤ k → ∀ (n : Nat) (cs : List Value) (x : DataW H × List MemPlace), DataW.trod enc P w base spare held n t cs = some x → Opens P w (leaves P k t) cs := by
 intro d
 induction d with
 | zero => intro t h; simp [flatT] at h
 | succ d ih =>
  intro t h hd k hk n cs x hx
  obtain ⟨k, rfl⟩ : ∃ k', k = k' + 1 := ⟨k - 1, by omega⟩
  cases hu : P.underlying t with
  | none => simp [flatT, hu] at h
  | some q =>
   cases q with
   | bool =>
    obtain ⟨b, rfl, -⟩ := DataW.trod_bool hu hx
    rw [isAgg_leaf (by simp [isAggT, hu])]
    exact .one (.bool hu) .bool
   | int kd =>
    obtain ⟨z, rfl, -, hz⟩ := DataW.trod_int hu hx
    rw [isAgg_leaf (by simp [isAggT, hu])]
    exact .one (.int hu hz) .int
   | string =>
    obtain ⟨s, rfl, -, hz⟩ := DataW.trod_string hu hx
    rw [isAgg_leaf (by simp [isAggT, hu])]
    exact .one (.str hu (by simpa using hz)) (.str rfl)
   | slice e =>
    simp only [flatT, hu, Bool.and_eq_true] at h
    obtain ⟨⟨h1, h2⟩, h3⟩ := h
    have hpos : 0 < P.cellsOf e := by simpa using h2
    rw [isAgg_leaf (by simp [isAggT, hu])]
    rcases Go.Deep.open_slice hu hx with ⟨rfl, -⟩ | ⟨a, len, cap, m, n', D, Pl, rfl, hb, hl, hm, hmm, -, hel⟩
    · exact .one (s := .psl e []) (.sl hu (by simp) (fun v hv => by cases hv)) (.psl (es := []) (fun _ => undef) rfl ⟨Nat.le_refl _, fun _ => rfl⟩ (fun v hv => by cases hv) (fun i v h => by simp at h) (fun hn => absurd rfl hn))
    · have hlm : len ≤ m := by rw [hmm]; split <;> omega
      have key : ∀ i, i < len → ∃ p : SV × List Value, OkV P e p.1 ∧ w.cells? base (a.add (i * P.cellsOf e)) (P.cellsOf e) = some p.2 ∧ VRel P om0 w (Old w) noTh p.1 (valOf P e p.2) ∧ (valOf P e p.2).cells.toList = p.2 := by
       intro i hi
       obtain ⟨cs', c1, c2⟩ := hel i (by omega)
       have ho := ih e h3 (by omega) 40 (by omega) _ _ _ c2
       obtain ⟨s, s1, s2⟩ := opens_val ho
       exact ⟨(s, cs'), s1, c1, s2, opens_cells ho⟩
      obtain ⟨F, hF⟩ := @Go.Deep.choose_lt (SV × List Value) ⟨(.junk, [])⟩ len _ key
      refine .one (s := .psl e ((List.range len).map fun i => (F i).1)) (.sl hu (by simp; omega) (fun v hv => ?_)) ?_
      · simp only [List.mem_map, List.mem_range] at hv
        obtain ⟨i, hi, rfl⟩ := hv
        exact (hF i hi).1
      · refine .psl (fun i => valOf P e (F i).2) (by simp) ⟨hl, fun h => by cases h⟩ (fun v hv => ?_) (fun i v hv => ?_) (fun hn => ?_)
        · simp only [List.mem_map, List.mem_range] at hv
          obtain ⟨i, hi, rfl⟩ := hv
          exact (hF i hi).1.expand
        · simp only [List.getElem?_map, Option.map_eq_some_iff] at hv
          obtain ⟨j, hj, rfl⟩ := hv
          obtain ⟨hi, hij⟩ := List.getElem?_eq_some_iff.1 hj
          simp only [List.length_range] at hi
          simp only [List.getElem_range] at hij
          subst hij
          exact (hF i hi).2.2.1
        · have h0 := hF 0 (by omega)
          obtain ⟨-, hcl, hca⟩ := World.cells?_some h0.2.1
          have hc0 := hca 0 hpos
          have hc1 : ∃ c, (F 0).2[0]? = some c := ⟨(F 0).2[0]'(by omega), by simp⟩
          obtain ⟨c, hc1⟩ := hc1
          rw [hc1] at hc0
          have hsp : a.spot = none ∧ a.block < w.heap.size := by
           simp only [World.cell?, Addr.add, Nat.zero_mul, Nat.add_zero] at hc0
           split at hc0
           · rename_i cc q1 q2 hh
             constructor
             · cases hs : a.spot with
               | none => rfl
               | some z => simp [hs] at hc0
             · obtain ⟨hlt, _⟩ := Array.getElem?_eq_some_iff.1 hh
               exact hlt
           · cases hc0
          obtain ⟨ab, ao, as⟩ := a
          obtain ⟨hs0, hlt⟩ := hsp
          simp only at hs0 hlt
          subst hs0
          refine ⟨ab, ao, rfl, hlt, fun i hi => ?_⟩
          obtain ⟨-, b1, b2⟩ := World.cells?_some (hF i hi).2.1
          have e1 := (hF i hi).2.2.2
          have hsz : (valOf P e (F i).2).cells.size = P.cellsOf e := by
           have := congrArg List.length e1
           simpa [b1] using this
          refine ⟨hsz, fun dd c hdc => ?_⟩
          have hdc' : (F i).2[dd]? = some c := by
           rw [← e1]; simpa using hdc
          have hlt2 : dd < P.cellsOf e := by
           rw [← b1]
           exact (List.getElem?_eq_some_iff.1 hdc').1
          have := b2 dd hlt2
          rw [hdc'] at this
          rw [← this]
          rw [addr_add, addr_add]
   | struct fs =>
    simp only [flatT, hu] at h
    obtain ⟨xs, m, rfl, -, hl, hxl, hat⟩ := DataW.trod_struct hu hx
    have e1 : leaves P (k + 1) t = fs.toList.flatMap fun f => leaves P k f.type := by simp [leaves, hu]
    rw [e1]
    have := opens_flds (w := w) (rd := fun t cs => ∃ y, DataW.trod enc P w base spare held m t cs = some y) hl (fun t cs hf ⟨y, hy⟩ => ih t hf (by omega) k (by omega) m cs y hy) fs.toList 0 h (fun f hf => by
     obtain ⟨i, hi, rfl⟩ := List.mem_iff_getElem.1 hf
     have hi' : i < fs.size := by simpa using hi
     refine ⟨xs[i]'(by omega), ?_⟩
     rw [hat i _ (by simp [hi'])]
     simp) (Nat.zero_le _)
    simpa using this
   | array m e =>
    simp only [flatT, hu, Bool.and_eq_true] at h
    obtain ⟨h1, h2⟩ := h
    have h1 : m * P.cellsOf e = P.cellsOf t := ofNat_beq h1
    obtain ⟨xs, n', rfl, -, hl, hxl, hat⟩ := DataW.trod_array hu hx
    have e1 : leaves P (k + 1) t = repL m (leaves P k e) := by simp [leaves, hu]
    rw [e1]
    have := opens_elems (P := P) (w := w) (t := e) (k := k) (m := m) (cs := cs) (fun i hi => ih e h2 (by omega) k (by omega) n' _ (xs[i]'(by omega)) (by rw [hat i hi]; simp)) m (Nat.le_refl _) (by rw [hl, h1])
    simpa using this
   | _ => simp [flatT, hu] at h
theorem open_data {r : Reach} {b0 : Nat} {t : TypeId} {v : Value} {dt : DataW H} {p : List MemPlace} (hf : flatT P 40 t = true) (hv : Value.okWide P w r b0 t v) (h : DataW.Trod enc P w base spare held t v dt p) : ∃ s, OkV P t s ∧ VRel P om0 w (Old w) noTh s v := by
 obtain ⟨n, hn⟩ := h
 have ho := open_flat 40 t hf (Nat.le_refl _) 40 (Nat.le_refl _) n _ _ hn
 obtain ⟨s, h1, h2⟩ := opens_val ho
 refine ⟨s, h1, ?_⟩
 have e : valOf P t v.cells.toList = v := by
  cases hb : isAggT P t with
  | true =>
   have : ∃ cs, v = .agg cs := by
    unfold isAggT at hb
    unfold Value.okWide at hv
    split at hb
    · rename_i hu; rw [hu] at hv; exact ⟨hv.choose, hv.choose_spec.1⟩
    · rename_i hu; rw [hu] at hv; exact ⟨hv.choose, hv.choose_spec.1⟩
    · cases hb
   obtain ⟨cs, rfl⟩ := this
   simp [valOf, hb, Value.cells]
  | false =>
   obtain ⟨ss, g1, g2⟩ := ho
   rw [isAgg_leaf hb 39] at g1
   obtain ⟨s, m, rfl, h3, h4⟩ := g1.cons_inv
   obtain rfl := h4.nil_inv
   obtain ⟨c, m, hc, h5, h6⟩ := g2.cons_inv
   obtain rfl := h6.nil_inv
   have hcc := scal_cells h3 h5 hb
   rw [hc]
   simp only [valOf, hb]
   show c = v
   cases v with
   | agg cs =>
    have : cs.toList = [c] := hc
    exfalso
    -- a value of a type of one cell is no row
    unfold isAggT at hb
    unfold Value.okWide at hv
    split at hb
    · cases hb
    · cases hb
    · rename_i u1 u2
      have hv' : Cell.okWide P w r b0 t (.agg cs) := by
       revert hv
       cases hu : P.underlying t with
       | none => exact id
       | some q => cases q <;> first | exact id | exact absurd hu (u1 _) | exact absurd hu (u2 _ _)
      cases h3 with
      | bool hu => simp [Cell.okWide, Cell.ok, hu] at hv'
      | int hu _ => simp [Cell.okWide, Cell.ok, hu] at hv'
      | str hu _ => simp [Cell.okWide, Cell.ok, hu] at hv'
      | sl hu _ _ => simp [Cell.okWide, Cell.ok, hu] at hv'
      | agg hu _ => simp [isAggT] at hu
   | _ => simp [Value.cells] at hc; exact hc.symm
 rw [e] at h2
 exact h2
end
end Go.Am
namespace Go.Am
section
variable {P : Program}
theorem OkV.int_inv {t : TypeId} {v : SV} {k : IntKind} (h : OkV P t v) (hu : P.underlying t = some (.int k)) : ∃ n, v = .int k n ∧ (Lit.int k n).wf = true := by
 cases h with
 | bool h => rw [hu] at h; cases h
 | int h w => rw [hu] at h; cases h; exact ⟨_, rfl, w⟩
 | str h _ => rw [hu] at h; cases h
 | sl h _ _ => rw [hu] at h; cases h
 | agg h _ => simp [isAggT, hu] at h
theorem OkV.sl_inv {t e : TypeId} {v : SV} (h : OkV P t v) (hu : P.underlying t = some (.slice e)) : ∃ es, v = .psl e es ∧ es.length ≤ maxLen ∧ ∀ x ∈ es, OkV P e x := by
 cases h with
 | bool h => rw [hu] at h; cases h
 | int h w => rw [hu] at h; cases h
 | str h w => rw [hu] at h; cases h
 | sl h w g => rw [hu] at h; cases h; exact ⟨_, rfl, w, g⟩
 | agg h _ => simp [isAggT, hu] at h
end
end Go.Am
/- Rows: from what a law's body comes to, whatever data it is handed, to the row's statement. -/
namespace Go.Am
open Go.ChangeShapes Go.WideShapes Go.ChangeAt Go.RowKit Go.Joins
section
variable {P : Program} {H : Type} {enc : TypeId × Value → H} {w : World} {base : Nat} {spare : Nat → Bool} {held : Bool}
theorem open_args {r : Reach} {b0 : Nat} : ∀ {ts : List TypeId} {vs : List Value} {ds : List (DataW H)} {p : List MemPlace}, ts.all (flatT P 40) = true → (∀ (j : Nat) t v, ts[j]? = some t → vs[j]? = some v → Value.okWide P w r b0 t v) → DataW.TrodAll enc P w base spare held ts vs ds p →
  ds.length = ts.length ∧ ∃ ss, All2 (OkV P) ts ss ∧ All2 (fun s c => VRel P om0 w (Old w) noTh s c) ss vs
 | [], [], [], _, _, _, _ => ⟨rfl, [], .nil, .nil⟩
 | t :: ts, v :: vs, d :: ds, _, hf, hv, ⟨p, q, h1, h2, _⟩ => by
  simp only [List.all_cons, Bool.and_eq_true] at hf
  obtain ⟨s, a, b⟩ := open_data hf.1 (hv 0 t v rfl rfl) h1
  obtain ⟨e, ss, a', b'⟩ := open_args hf.2 (fun j t v ht hv' => hv (j + 1) t v (by simpa using ht) (by simpa using hv')) h2
  exact ⟨by simp [e], s :: ss, .cons a a', .cons b b'⟩
 | [], [], _ :: _, _, _, _, h => by simp [DataW.TrodAll] at h
 | [], _ :: _, _, _, _, _, h => by simp [DataW.TrodAll] at h
 | _ :: _, [], _, _, _, _, h => by simp [DataW.TrodAll] at h
 | _ :: _, _ :: _, [], _, _, _, h => by simp [DataW.TrodAll] at h
theorem old_call {f : FuncId} {s : CSumm} (hs : Known P f s) {args : List SV} {v : SV} {ups : List (Nat × Option Chunk)} (hr : crun (s args []) = some (v, ups)) {us : List Value} {w : World}
  (ha : LRel P om0 w (Old w) noTh args us) :
  Calls P f us.toArray w fun e w' => ∃ u θ' Im', e = .returned u ∧ VRel P om0 w' Im' θ' v u ∧ w'.os = w.os ∧ w'.output = w.output ∧ ∀ b, b < w.heap.size → w'.heap[b]? = w.heap[b]? := by
 have hg : ∀ x c, HpL.get [] x ≠ some c := fun x c h => by simp [HpL.get] at h
 refine (hs.ok args [] v ups hr (fun i p h => by simp at h) om0 noTh (Old w) w us ha ⟨fun x c h => absurd h (hg x c), fun x y c c' b N N' h => absurd h (hg x c), fun x c b N h => absurd h (hg x c), fun b h => h⟩ (fun x _ => rfl)).mono ?_
 rintro e w' ⟨u, θ', Im', rfl, he, hv, _⟩
 exact ⟨u, θ', Im', rfl, hv, he.os, he.output, fun b hb => he.keep b hb (fun x c N hx => absurd hx (hg x c))⟩
theorem kept_of_same {w w' : World} (ho : w'.os = w.os) (hp : w'.output = w.output) (hk : ∀ b, b < w.heap.size → w'.heap[b]? = w.heap[b]?) (may : MemPlace → Prop) : w.keptBut w' may := by
 refine ⟨ho, hp, fun i hi => ?_⟩
 rw [hk i hi]
 cases w.heap[i]? with
 | none => rfl
 | some o =>
  cases o with
  | cells c t fr => exact ⟨rfl, rfl, rfl, fun _ _ => rfl⟩
  | map es clock => exact .inr ⟨rfl, rfl⟩
  | _ => rfl
theorem trodAll_carry {w w' : World} : ∀ {ts : List TypeId} {vs : List Value} {ds : List (DataW H)} {p : List MemPlace}, DataW.TrodAll enc P w base spare held ts vs ds p → (∀ q ∈ p, w.sameAt w' q) → DataW.TrodAll enc P w' base spare held ts vs ds p
 | [], [], [], _, h, _ => h
 | _ :: _, _ :: _, _ :: _, _, ⟨p, q, ⟨n, hn⟩, h2, e⟩, hs => ⟨p, q, ⟨n, DataW.trod_carry n _ _ _ hn (fun x hx => hs x (by rw [e]; exact List.mem_append_left _ hx))⟩, trodAll_carry h2 (fun x hx => hs x (by rw [e]; exact List.mem_append_right _ hx)), e⟩
 | [], [], _ :: _, _, h, _ => by simp [DataW.TrodAll] at h
 | [], _ :: _, _, _, h, _ => by simp [DataW.TrodAll] at h
 | _ :: _, [], _, _, h, _ => by simp [DataW.TrodAll] at h
 | _ :: _, _ :: _, [], _, h, _ => by simp [DataW.TrodAll] at h
theorem row_true {f : FuncId} {fn : Func} {s : ChangeSpec} {apart fresh handsOn again : Bool} {sm : CSumm} {tb : TypeId} {W : World} {b0 : Nat} {args : Array Value} {ds gs : List (DataW H)} {before : List MemPlace}
  (hl : laidOutB P = true) (hm : mapsRowed P = true) (hz : ((List.range P.types.size).all fun t => match P.underlying t with | some (.slice e) => decide (0 < P.cellsOf e) | _ => true) = true)
  (hsz : (fn.params.toList.all fun t => decide (t < P.types.size)) = true) (hflat : fn.params.toList.all (flatT P 40) = true)
  (hk : Known P f sm) (hv : s.vars = []) (hu : P.underlying tb = some .bool) (hrt : fn.resultTypes = #[tb])
  (hlaw : ∀ ss, All2 (OkV P) fn.params.toList ss → crun (sm ss []) = some (.bool true, []))
  (hspec : ∀ ds : List (DataW H), ds.length = fn.params.toList.length → s.fn H ds = { results := [.lit (.bool true)], args := ds })
  (hval : ∀ (j : Nat) t v, fn.params[j]? = some t → args[j]? = some v → Value.okWide P W .any b0 t v)
  (hW : DataW.Whole enc P fn.params.toList s.vars apart W args.toList ds gs before) :
  Calls P f args W fun e W' => ∃ v, e = .returned v ∧ s.post enc P fn apart fresh handsOn again W args v W' := by
 have hW' := hW
 obtain ⟨p, q, hA, hV, rfl, hfz, hnd⟩ := hW
 rw [hv] at hV
 obtain ⟨rfl, rfl⟩ := trodVars_none hV
 obtain ⟨hdl, ss, o1, o2⟩ := open_args (r := .any) (b0 := b0) hflat (fun j t v ht hv => hval j t v (by simpa using ht) (by simpa using hv)) hA
 have hc := old_call hk (hlaw ss o1) (all2_lrel o2)
 rw [Array.toArray_toList] at hc
 refine hc.mono ?_
 rintro o W' ⟨u, θ', Im', rfl, hu', ho, hp, hkp⟩
 cases hu'
 refine ⟨_, rfl, post_kept (pa := p) (pv := []) hW' (fun _ _ _ => ?_) (fun sp hsp => ?_) (fun sp _ => ?_) (by simp) (kept_of_same ho hp hkp _) (fun a ha => ?_) ?_⟩
 · rw [List.append_nil, hspec ds hdl, hrt]
   exact trodAll_mk1 (shut_bool hu true)
 · rw [List.append_nil, hspec ds hdl]
   refine DataW.TrodAll.respare (kids_rows hl hm) (slices_full_of P hz) (fun t ht => ?_) (trodAll_carry hA (fun q hq => ?_)) (fun x hx => hsp x (by simpa using hx))
   · simpa using List.all_eq_true.1 hsz t ht
   · have hlt := hW'.lt q (by simpa using hq)
     cases q with
     | cell b off => simp only [World.sameAt, World.cell?, hkp b hlt]
     | map b => exact hkp b hlt
 · rw [List.append_nil, hspec ds hdl, hv]
   rfl
 · simp only [World.frozen?, hkp a.block ha]
 · rw [show fn.resultTypes = #[tb] from hrt]
   intro j t r ht hr
   cases j with
   | zero =>
    simp at ht hr
    subst ht
    simp [Value.resultList] at hr
    subst hr
    exact okWide_bool_mk hu true
   | succ j => simp at ht
end
end Go.Am
