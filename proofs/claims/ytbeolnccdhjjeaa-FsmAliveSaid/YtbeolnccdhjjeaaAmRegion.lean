/- The abstract machine: a region, in whichever order. -/
import Derived.Test.YtbeolnccdhjjeaaAmCall
namespace Go.Am
variable {P : Program} {ω : Nat → Value}

def evT (T : Nat → SV) : Operand → SV
  | .tmp t => T t
  | .const v => ofValue v
  | .func f => .fn (.func f) [] []
  | .global _ => .junk
def updT (T : Nat → SV) (dst : Option Nat) (v : SV) : Nat → SV :=
  match dst with
  | none => T
  | some d => fun t => if t = d then v else T t

/-- What a function that holds ranges over functions owes at its end: marks of blocks that nobody else knows. -/
def Mk (w : World) (Im : Nat → Prop) (θ : Th) (h : HpF) (ds : List Deferred) : Prop :=
  ∃ rs : List Nat, ds = rs.map (fun r => { target := .collected r, args := #[] }) ∧ rs.Nodup ∧
    ∀ r ∈ rs, w.heap[r]? = some (.deferred (some [])) ∧ ¬ Im r ∧ ∀ x c N, h x = some c → θ x ≠ some (r, N)

theorem Mk.nil {w : World} {Im : Nat → Prop} {θ : Th} {h : HpF} : Mk w Im θ h [] := ⟨[], rfl, List.nodup_nil, fun r hr => by cases hr⟩
theorem Mk.step {new : Nat → Prop} {h h' : HpF} {w w' : World} {Im Im' : Nat → Prop} {θ θ' : Th} {ds : List Deferred} (m : Mk w Im θ h ds) (he : Ext new h w Im θ h' w' Im' θ') : Mk w' Im' θ' h' ds := by
  obtain ⟨rs, h1, h2, h3⟩ := m
  refine ⟨rs, h1, h2, fun r hr => ?_⟩
  obtain ⟨a1, a2, a3⟩ := h3 r hr
  have hlt := heap_lt a1
  refine ⟨by rw [he.keep r hlt a3]; exact a1, fun hi => ?_, fun x c N hx hθ => ?_⟩
  · rcases he.imNew r hi with h4 | ⟨x, c, N, h4, h5⟩ | h4
    · exact a2 h4
    · exact a3 x c N h4 h5
    · omega
  · rcases he.ownNew x c r N hx hθ with ⟨y, c', N', h4, h5⟩ | h4
    · exact a3 y c' N' h4 h5
    · omega

structure SimF (P : Program) (ω : Nat → Value) (n : Nat) (T : Nat → SV) (h : HpF) (a : Act) (w : World) (Im : Nat → Prop) (θ : Th) : Prop where
  size : a.tmps.size = n
  tm : ∀ t, t < n → VRel P ω w Im θ (T t) (a.tmps.getD t undef)
  out : ∀ t, n ≤ t → T t = .junk
  df : Mk w Im θ h a.defers
  hp : HRel P ω w Im θ h

theorem SimF.eval {n : Nat} {T : Nat → SV} {h : HpF} {a : Act} {w : World} {Im : Nat → Prop} {θ : Th} (s : SimF P ω n T h a w Im θ) (x : Operand) : VRel P ω w Im θ (evT T x) (a.eval x) := by
  cases x with
  | tmp t =>
    simp only [evT, Act.eval]
    rcases Nat.lt_or_ge t n with h | h
    · exact s.tm t h
    · rw [s.out t h]; exact .junk
  | const v => exact ofValue_rel w Im θ v
  | global g => exact .junk
  | func f => exact .fn rfl rfl (fun i v u hv _ => by simp at hv) (fun i v u hv _ => by simp at hv)

def dstN (n : Nat) : Option Nat → Prop
  | none => True
  | some d => d < n

theorem put_size (a : Act) (dst : Option Nat) (v : Value) : (a.put dst v).tmps.size = a.tmps.size := by cases dst <;> simp [Act.put]
theorem put_defers (a : Act) (dst : Option Nat) (v : Value) : (a.put dst v).defers = a.defers := by cases dst <;> rfl

theorem SimF.step {n : Nat} {T : Nat → SV} {h h' : HpF} {a : Act} {w w' : World} {Im Im' : Nat → Prop} {θ θ' : Th} {new : Nat → Prop} (s : SimF P ω n T h a w Im θ) {dst : Option Nat} (hd : dstN n dst) {r : SV} {v : Value}
    (he : Ext new h w Im θ h' w' Im' θ') (hv : VRel P ω w' Im' θ' r v) (hr : HRel P ω w' Im' θ' h') : SimF P ω n (updT T dst r) h' (a.put dst v) w' Im' θ' := by
  refine ⟨by rw [put_size, s.size], fun t ht => ?_, fun t ht => ?_, by rw [put_defers]; exact s.df.step he, hr⟩
  · cases dst with
    | none => exact he.val s.hp (s.tm t ht)
    | some d =>
      have hd' : d < a.tmps.size := by rw [s.size]; exact hd
      by_cases htd : t = d
      · subst htd
        simp [updT, Act.put, Array.getD, hd', hv]
      · have := he.val s.hp (s.tm t ht)
        have ht' : t < a.tmps.size := by rw [s.size]; exact ht
        simp only [updT, if_neg htd, Act.put]
        have e : (a.tmps.setIfInBounds d v).getD t undef = a.tmps.getD t undef := by
          simp [Array.getD, ht', Ne.symm htd]
        rw [e]; exact this
  · cases dst with
    | none => exact s.out t ht
    | some d =>
      have : t ≠ d := by intro e; subst e; simp only [dstN] at hd; omega
      simp only [updT, if_neg this]
      exact s.out t ht

/-- An operation that is passed over. -/
theorem SimF.skip {n : Nat} {T : Nat → SV} {h : HpF} {a : Act} {w : World} {Im : Nat → Prop} {θ : Th} (s : SimF P ω n T h a w Im θ) {dst : Option Nat} (hd : dstN n dst) : SimF P ω n (updT T dst (.tup [])) h (a.put dst undef) w Im θ :=
  s.step hd (Ext.refl (fun _ => False)) (.tup rfl (fun i v u hv _ => by simp at hv)) s.hp

/-- What a guard says. -/
def wantedT (all : List Oper) (n : Nat) (T : Nat → SV) (o : Oper) : Option Bool :=
  match o.guard with
  | none => some true
  | some (j, want) =>
    match all[j]? with
    | some oj => match oj.dst with
      | some d => if d < n then match T d with
        | .bool b => some (b == want)
        | .tup [] => some false
        | _ => none
        else none
      | none => none
    | none => none

theorem wanted_eq {all : List Oper} {n : Nat} {T : Nat → SV} {h : HpF} {a : Act} {w : World} {Im : Nat → Prop} {θ : Th} (s : SimF P ω n T h a w Im θ) {o : Oper} {b : Bool} (hw : wantedT all n T o = some b) :
    Region.wanted o (yielded all.toArray a.tmps) = b := by
  unfold wantedT at hw
  unfold Region.wanted
  cases hg : o.guard with
  | none => simp [hg] at hw; simp [hw]
  | some p =>
    obtain ⟨j, want⟩ := p
    simp only [hg] at hw
    cases hj : all[j]? with
    | none => simp [hj] at hw
    | some oj =>
      simp only [hj] at hw
      cases hd : oj.dst with
      | none => simp [hd] at hw
      | some d =>
        simp only [hd] at hw
        split at hw
        · rename_i hdn
          have hv := s.tm d hdn
          split at hw
          · rename_i c hc
            rw [hc] at hv
            have hlt : d < a.tmps.size := by rw [s.size]; exact hdn
            generalize hu : a.tmps.getD d undef = u at hv
            cases hv
            have hu' : a.tmps[d]? = some (.bool c) := by
              simp [Array.getD, hlt] at hu
              simp [hlt, hu]
            simp only [yielded, List.getElem?_toArray, hj, Option.bind_some, hd, hu']
            simp only [Option.some.injEq] at hw
            rw [← hw]
            cases c <;> cases want <;> rfl
          · rename_i hc
            rw [hc] at hv
            have hlt : d < a.tmps.size := by rw [s.size]; exact hdn
            generalize hu : a.tmps.getD d undef = u at hv
            cases hv with
            | tup h1 h2 =>
              rename_i us
              have hu' : a.tmps[d]? = some (.tuple us) := by
                simp [Array.getD, hlt] at hu
                simp [hlt, hu]
              simp only [yielded, List.getElem?_toArray, hj, Option.bind_some, hd, hu']
              simp only [Option.some.injEq] at hw
              rw [← hw]
              rfl
          · cases hw
        · cases hw

/-- What has been seen of one operation. -/
structure Rec where
  ex : Bool
  r : SV
  ups : List (Nat × Option Chunk)
  nx0 : Nat
  nx1 : Nat
  rs : List Nat

/-- The operations in the order of the text. -/
inductive Txt (P : Program) (κ : Nat → Option CSumm) (all : List Oper) (n : Nat) : List Oper → (Nat → SV) → HpF → Nat → List Rec → (Nat → SV) → HpF → Nat → Prop
  | nil {T : Nat → SV} {h : HpF} {nx : Nat} : Txt P κ all n [] T h nx [] T h nx
  | run {o : Oper} {os : List Oper} {T T' : Nat → SV} {h h' : HpF} {nx nx1 nx' : Nat} {r : SV} {ups : List (Nat × Option Chunk)} {rs : List Nat} {recs : List Rec} :
      dstN n o.dst → wantedT all n T o = some true → mrun h (opM P κ o (evT T) nx) = some (r, ups, nx1, rs) → Txt P κ all n os (updT T o.dst r) (updF ups h) nx1 recs T' h' nx' →
      Txt P κ all n (o :: os) T h nx (⟨true, r, ups, nx, nx1, rs⟩ :: recs) T' h' nx'
  | skip {o : Oper} {os : List Oper} {T T' : Nat → SV} {h h' : HpF} {nx nx' : Nat} {recs : List Rec} :
      dstN n o.dst → wantedT all n T o = some false → Txt P κ all n os (updT T o.dst (.tup [])) h nx recs T' h' nx' →
      Txt P κ all n (o :: os) T h nx (⟨false, .tup [], [], nx, nx, []⟩ :: recs) T' h' nx'

theorem opM0_congr {κ : Nat → Option CSumm} {o : Oper} {ev ev' : Operand → SV} (h : ∀ x ∈ o.op.operands, ev x = ev' x) (nx : Nat) : opM0 P κ o ev nx = opM0 P κ o ev' nx := by
  obtain ⟨dst, op, type, pos, after, guard⟩ := o
  have lst : ∀ (l : Array Operand), (∀ x ∈ l, ev x = ev' x) → l.toList.map ev = l.toList.map ev' := fun l hl => List.map_congr_left fun x hx => hl x (by simpa using hx)
  cases op <;> simp only [Op.operands] at h <;> simp only [opM0]
  case move x => rw [h x (by simp)]
  case assign x => rw [h x (by simp)]
  case pick c x y => rw [h c (by simp), h x (by simp), h y (by simp)]
  case box t x => rw [h x (by simp)]
  case build t ps =>
    have : (ps.toList.map fun p => (p.1, ev p.2)) = ps.toList.map fun p => (p.1, ev' p.2) := List.map_congr_left fun p hp => by
      rw [h p.2 (by simp; exact ⟨p.1, by simpa using hp⟩)]
    rw [this]
  case load t x => rw [h x (by simp)]
  case store t x v => rw [h x (by simp), h v (by simp)]
  case nilCheck x => rw [h x (by simp)]
  case binOp op t x y yt => rw [h x (by simp), h y (by simp)]
  case unOp op t x => rw [h x (by simp)]
  case convert s d x => rw [h x (by simp)]
  case makeFunc f as bs =>
    rw [lst as (fun x hx => h x (by simp [hx])), lst bs (fun x hx => h x (by simp [hx]))]
  case fieldAddr t x f => rw [h x (by simp)]
  case field t x f => rw [h x (by simp)]
  case extract x i => rw [h x (by simp)]
  case buildSlice t n ps =>
    have : (ps.toList.map fun p => (p.1, ev p.2)) = ps.toList.map fun p => (p.1, ev' p.2) := List.map_congr_left fun p hp => by
      rw [h p.2 (by simp; exact ⟨p.1, by simpa using hp⟩)]
    rw [this]
  case makeSlice t l c => rw [h l (by simp), h c (by simp)]
  case slice t x lo hi mx =>
    have o : ∀ (l : Option Operand), (∀ y, l = some y → ev y = ev' y) → l.map ev = l.map ev' := fun l hl => by cases l with
      | none => rfl
      | some y => simp [hl y rfl]
    rw [h x (by simp), o lo (fun y e => h y (by simp [e])), o hi (fun y e => h y (by simp [e])), o mx (fun y e => h y (by simp [e]))]
  case indexAddr t x ix => rw [h x (by simp), h ix (by simp)]
  case index t x ix => rw [h x (by simp), h ix (by simp)]
  case call c =>
    cases hc : c.callee with
    | value f =>
      simp only []
      rw [h f (by simp [Call.operands, hc]), lst c.args (fun x hx => h x (by simp [Call.operands, hx]))]
    | invoke r m =>
      simp only []
      rw [h r (by simp [Call.operands, hc]), lst c.args (fun x hx => h x (by simp [Call.operands, hx]))]
    | builtin b =>
      simp only []
      rw [lst c.args (fun x hx => h x (by simp [Call.operands, hx]))]

theorem opM_congr {κ : Nat → Option CSumm} {o : Oper} {ev ev' : Operand → SV} (h : ∀ x ∈ o.op.operands, ev x = ev' x) (nx : Nat) : opM P κ o ev nx = opM P κ o ev' nx := by
  have e : o.op.operands.toList.map ev = o.op.operands.toList.map ev' := List.map_congr_left fun x hx => h x (by simpa using hx)
  unfold opM
  rw [opM0_congr h nx, e]

theorem mrun_congr {h h' : HpF} {r : SV} {ups : List (Nat × Option Chunk)} {nx : Nat} : ∀ (m : OpM) (rs : List Nat), mrun h m = some (r, ups, nx, rs) → (∀ x ∈ rs, h' x = h x) → mrun h' m = some (r, ups, nx, rs)
  | .done _ _ _, rs, hm, _ => by simpa [mrun] using hm
  | .get x f, rs, hm, hh => by
    simp only [mrun] at hm ⊢
    cases hx : h x with
    | none => simp [hx] at hm
    | some c =>
      simp only [hx] at hm
      cases hr : mrun h (f c) with
      | none => simp [hr] at hm
      | some q =>
        obtain ⟨r0, u0, n0, rs0⟩ := q
        simp only [hr, Option.some.injEq, Prod.mk.injEq] at hm
        obtain ⟨rfl, rfl, rfl, rfl⟩ := hm
        rw [hh x (by simp), hx]
        simp only []
        rw [mrun_congr (f c) rs0 hr (fun y hy => hh y (by simp [hy]))]
  | .ite b t e, rs, hm, hh => by
    simp only [mrun] at hm ⊢
    cases b
    · simp only [Bool.false_eq_true, if_false] at hm ⊢; exact mrun_congr e rs hm hh
    · simp only [if_true] at hm ⊢; exact mrun_congr t rs hm hh
  | .fail, rs, hm, _ => by simp [mrun] at hm

/-- What an operation reads is there; what it writes it has read, or it is new. -/
theorem mrun_reads {h : HpF} {r : SV} {ups : List (Nat × Option Chunk)} {nx : Nat} : ∀ (m : OpM) (rs : List Nat), mrun h m = some (r, ups, nx, rs) → ∀ x ∈ rs, ∃ c, h x = some c
  | .done _ _ _, rs, hm, x, hx => by
    simp only [mrun, Option.some.injEq, Prod.mk.injEq] at hm
    rw [← hm.2.2.2] at hx; cases hx
  | .get y f, rs, hm, x, hx => by
    simp only [mrun] at hm
    cases hy : h y with
    | none => simp [hy] at hm
    | some c =>
      simp only [hy] at hm
      cases hr : mrun h (f c) with
      | none => simp [hr] at hm
      | some q =>
        obtain ⟨r0, u0, n0, rs0⟩ := q
        simp only [hr, Option.some.injEq, Prod.mk.injEq] at hm
        obtain ⟨rfl, rfl, rfl, rfl⟩ := hm
        rcases List.mem_cons.1 hx with rfl | hx
        · exact ⟨c, hy⟩
        · exact mrun_reads (f c) rs0 hr x hx
  | .ite b t e, rs, hm, x, hx => by
    simp only [mrun] at hm
    cases b
    · simp only [Bool.false_eq_true, if_false] at hm; exact mrun_reads e rs hm x hx
    · simp only [if_true] at hm; exact mrun_reads t rs hm x hx
  | .fail, rs, hm, _, _ => by simp [mrun] at hm


/-- It writes nothing and names nothing. -/
def Quiet (m : OpM) (nx : Nat) : Prop := ∀ (h : HpF) r ups nx' rs, mrun h m = some (r, ups, nx', rs) → ups = [] ∧ nx' = nx
theorem Quiet.done (r : SV) (nx : Nat) : Quiet (.done r [] nx) nx := fun h r' ups nx' rs hm => by
  obtain ⟨_, rfl, rfl, _⟩ := mrun_done hm; exact ⟨rfl, rfl⟩
theorem Quiet.fail (nx : Nat) : Quiet .fail nx := fun h r' ups nx' rs hm => by simp [mrun] at hm
theorem Quiet.ite {b : Bool} {t e : OpM} {nx : Nat} (h1 : Quiet t nx) (h2 : Quiet e nx) : Quiet (.ite b t e) nx := fun h r ups nx' rs hm => by
  simp only [mrun] at hm
  split at hm
  · exact h1 h r ups nx' rs hm
  · exact h2 h r ups nx' rs hm
theorem quiet_intBin (op : BinOp) (k : IntKind) (a b : Int) (m : OpM) (nx : Nat) : Quiet (intBin op k a b m nx) nx := by
  cases op <;> simp only [intBin] <;> first
    | exact Quiet.done _ _
    | exact Quiet.fail _
    | exact Quiet.ite (Quiet.fail _) (Quiet.done _ _)
theorem quiet_shift (op : BinOp) (k : IntKind) (a b : Int) (nx : Nat) : Quiet (shiftS op k a b nx) nx := by
  unfold shiftS
  cases op <;> simp only [] <;> first
    | exact Quiet.fail _
    | exact Quiet.ite (Quiet.fail _) (Quiet.done _ _)
theorem quiet_str (op : BinOp) (a b : List UInt8) (nx : Nat) : Quiet (strBin op a b nx) nx := by
  unfold strBin
  cases op <;> simp only [] <;> first
    | exact Quiet.done _ _
    | exact Quiet.fail _
    | exact Quiet.ite (Quiet.done _ _) (Quiet.fail _)
theorem quiet_bin (op : BinOp) (t : TypeId) (x y : SV) (nx : Nat) : Quiet (binS P op t x y nx) nx := by
  unfold binS
  split
  · split
    · exact quiet_shift _ _ _ _ _
    · exact quiet_shift _ _ _ _ _
    · cases ikEq _ _
      · exact Quiet.fail _
      · exact quiet_intBin _ _ _ _ .fail _
  · exact quiet_str _ _ _ _
  · split <;> first | exact Quiet.done _ _ | exact Quiet.fail _
  · rename_i as bs
    cases isAggT P t && plainEq P 40 t && !P.eqGuardType P.depth t && fitsAll P (leaves P 40 t) as && fitsAll P (leaves P 40 t) bs with
    | false => exact Quiet.fail _
    | true => simp only [cond_true]; split <;> first | exact Quiet.done _ _ | exact Quiet.fail _
  · exact Quiet.fail _
theorem quiet_conv (s d : TypeId) (x : SV) (nx : Nat) : Quiet (convS P s d x nx) nx := by
  unfold convS
  split <;> first | exact Quiet.done _ _ | exact Quiet.fail _
theorem quiet_build (t : TypeId) (ps : List (Nat × SV)) (nx : Nat) : Quiet (buildS P t ps nx) nx := by
  unfold buildS
  cases buildOk P t with
  | false => exact Quiet.fail _
  | true =>
    simp only [cond_true]
    split
    · split <;> first | exact Quiet.done _ _ | exact Quiet.fail _
    · exact Quiet.fail _

theorem quiet_indexAddr (t : TypeId) (x ix : SV) (nx : Nat) : Quiet (indexAddrS P t x ix nx) nx := by
  unfold indexAddrS
  split
  · rename_i e _ _ _
    cases knownT P e
    · exact Quiet.fail _
    · exact Quiet.ite (Quiet.done _ _) (Quiet.fail _)
  · rename_i e _ _ _ _ _
    cases knownT P e
    · exact Quiet.fail _
    · exact Quiet.ite (Quiet.done _ _) (Quiet.fail _)
  · exact Quiet.fail _
theorem quiet_index (t : TypeId) (x ix : SV) (nx : Nat) : Quiet (indexS P t x ix nx) nx := by
  unfold indexS
  split
  · rename_i e _ _
    cases knownT P e
    · exact Quiet.fail _
    · simp only [cond_true]
      split
      · exact Quiet.ite (Quiet.done _ _) (Quiet.fail _)
      · exact Quiet.fail _
  · exact Quiet.ite (Quiet.done _ _) (Quiet.fail _)
  · exact Quiet.fail _
theorem quiet_builtin (b : Builtin) (tys : List TypeId) (args : List SV) (nx : Nat) : Quiet (builtinS P b tys args nx) nx := by
  unfold builtinS
  split
  · unfold lenS
    split <;> first | exact Quiet.done _ _ | exact Quiet.fail _
  · exact Quiet.fail _

theorem getD_mem (l : List Nat) (i : Nat) (h : i < l.length) : l.getD i 0 ∈ l := by
  have : l.getD i 0 = l[i] := by simp [List.getD_eq_getElem?_getD, h]
  rw [this]; exact List.getElem_mem h

theorem callS_wf {s : CSumm} {args : List SV} {h : HpF} {r : SV} {ups : List (Nat × Option Chunk)} {nx nx' : Nat} {rs : List Nat} (hm : mrun h (callS s args nx) = some (r, ups, nx', rs)) :
    nx ≤ nx' ∧ ∀ p ∈ ups, p.1 ∈ rs ∨ (nx ≤ p.1 ∧ p.1 < nx') := by
  unfold callS at hm
  dsimp only at hm
  obtain ⟨acc, rs1, rs2, hcl, hclosed, hargs, -, hrd, hm2, rfl⟩ := closeM_spec _ _ _ _ hm ⟨(fun p hp => by cases hp), List.nodup_nil⟩ (fun p hp => by cases hp)
  obtain ⟨v, u, hrun, rfl, rfl, rfl⟩ := ofCTree_run _ hm2
  refine ⟨by omega, fun p hp => ?_⟩
  have hk : p.1 ∈ (backUps _ u).map (·.1) := List.mem_map.2 ⟨p, hp, rfl⟩
  rw [backUps_keys] at hk
  obtain ⟨q, hq, he⟩ := List.mem_map.1 hk
  rw [← he]
  have hqb := boundN_mem (namesS v ++ namesU u) (acc.reverse.map (·.1)).length q.1 (List.mem_append.2 (.inr (namesU_key hq)))
  unfold backName
  cases hb : Nat.blt q.1 (acc.reverse.map (·.1)).length with
  | true =>
    simp only [cond_true]
    rw [Nat.blt_eq] at hb
    left
    have := getD_mem _ _ hb
    have : (acc.reverse.map (·.1)).getD q.1 0 ∈ acc.map (·.1) := by simpa using this
    rcases hrd _ this with h1 | h1
    · cases h1
    · exact List.mem_append.2 (.inl h1)
  | false =>
    simp only [cond_false]
    have : ¬ q.1 < (acc.reverse.map (·.1)).length := by intro hh; rw [← Nat.blt_eq] at hh; rw [hh] at hb; cases hb
    right
    omega

theorem opM0_wf {κ : Nat → Option CSumm} {o : Oper} {ev : Operand → SV} {h : HpF} {r : SV} {ups : List (Nat × Option Chunk)} {nx nx' : Nat} {rs : List Nat} (hm : mrun h (opM0 P κ o ev nx) = some (r, ups, nx', rs)) :
    nx ≤ nx' ∧ ∀ p ∈ ups, p.1 ∈ rs ∨ (nx ≤ p.1 ∧ p.1 < nx') := by
  have quiet : ∀ {m : OpM}, Quiet m nx → mrun h m = some (r, ups, nx', rs) → nx ≤ nx' ∧ ∀ p ∈ ups, p.1 ∈ rs ∨ (nx ≤ p.1 ∧ p.1 < nx') := by
    intro m hq hm
    obtain ⟨rfl, rfl⟩ := hq h r ups nx' rs hm
    exact ⟨Nat.le_refl _, fun p hp => by cases hp⟩
  have new : ∀ {r0 : SV} {c : Option Chunk}, mrun h (.done r0 [(nx, c)] (nx + 1)) = some (r, ups, nx', rs) → nx ≤ nx' ∧ ∀ p ∈ ups, p.1 ∈ rs ∨ (nx ≤ p.1 ∧ p.1 < nx') := by
    intro r0 c hm
    obtain ⟨_, rfl, rfl, _⟩ := mrun_done hm
    exact ⟨by omega, fun p hp => by simp at hp; subst hp; exact .inr (by omega)⟩
  obtain ⟨dst, op, type, pos, after, guard⟩ := o
  cases op <;> simp only [opM0] at hm <;> try (simp [mrun] at hm; done)
  case move x => exact quiet (Quiet.done _ _) hm
  case assign x => exact quiet (Quiet.done _ _) hm
  case pick c x y =>
    split at hm
    · exact quiet (Quiet.ite (Quiet.done _ _) (Quiet.done _ _)) hm
    · exact quiet (Quiet.fail _) hm
  case alloc t =>
    split at hm
    · split at hm
      · exact new hm
      · exact quiet (Quiet.fail _) hm
    · exact quiet (Quiet.fail _) hm
  case box t x =>
    split at hm
    · exact new hm
    · exact quiet (Quiet.fail _) hm
  case build t ps => exact quiet (quiet_build _ _ _) hm
  case load t x =>
    split at hm
    · rename_i y off he
      simp only [mrun] at hm
      cases hy : h y with
      | none => simp [hy] at hm
      | some c =>
        simp only [hy] at hm
        cases c with
        | seq e es => simp [mrun] at hm
        | loopr => simp [mrun] at hm
        | mpc => simp [mrun] at hm
        | cells T vs =>
          simp only [] at hm
          cases hp : partS P t vs off with
          | none => simp [hp, mrun] at hm
          | some v =>
            simp only [hp, mrun, Option.some.injEq, Prod.mk.injEq] at hm
            obtain ⟨rfl, rfl, rfl, rfl⟩ := hm
            exact ⟨Nat.le_refl _, fun p hp => by cases hp⟩
    · exact quiet (Quiet.fail _) hm
  case store t x v =>
    split at hm
    · rename_i y off vs he hc
      cases hb : Nat.beq vs.length (P.cellsOf t) && knownT P t with
      | false => simp [hb, mrun] at hm
      | true =>
        simp only [hb, cond_true, mrun] at hm
        cases hy : h y with
        | none => simp [hy] at hm
        | some c =>
          simp only [hy] at hm
          cases c with
          | seq e es => simp [mrun] at hm
          | loopr => simp [mrun] at hm
          | mpc => simp [mrun] at hm
          | cells T cs =>
            simp only [] at hm
            cases hs : splice cs off vs with
            | none => simp [hs, mrun] at hm
            | some cs' =>
              simp only [hs, mrun, Option.some.injEq, Prod.mk.injEq] at hm
              obtain ⟨rfl, rfl, rfl, rfl⟩ := hm
              exact ⟨Nat.le_refl _, fun p hp => by simp at hp; subst hp; exact .inl (by simp)⟩
    · exact quiet (Quiet.fail _) hm
  case nilCheck x => split at hm <;> first | exact quiet (Quiet.done _ _) hm | exact quiet (Quiet.fail _) hm
  case binOp op t x y yt =>
    split at hm
    · exact quiet (Quiet.done _ _) hm
    · exact quiet (Quiet.done _ _) hm
    · exact quiet (quiet_bin _ _ _ _ _) hm
  case unOp op t x => split at hm <;> first | exact quiet (Quiet.done _ _) hm | exact quiet (Quiet.fail _) hm
  case convert s d x => exact quiet (quiet_conv _ _ _ _) hm
  case makeFunc f as bs => split at hm <;> first | exact quiet (Quiet.done _ _) hm | exact quiet (Quiet.fail _) hm
  case fieldAddr t x f =>
    split at hm
    · split at hm
      · rename_i fd _
        cases hz : Nat.beq (P.cellsOf fd.type) 0 with
        | true => rw [hz] at hm; exact quiet (Quiet.fail _) hm
        | false => rw [hz] at hm; exact quiet (Quiet.done _ _) hm
      · exact quiet (Quiet.fail _) hm
    · exact quiet (Quiet.fail _) hm
  case field t x f =>
    split at hm
    · split at hm
      · split at hm
        · exact quiet (Quiet.done _ _) hm
        · exact quiet (Quiet.fail _) hm
      · exact quiet (Quiet.fail _) hm
    · exact quiet (Quiet.fail _) hm
  case extract x i =>
    split at hm
    · split at hm
      · exact quiet (Quiet.done _ _) hm
      · exact quiet (Quiet.fail _) hm
    · exact quiet (Quiet.fail _) hm
  case buildSlice t n ps =>
    unfold buildSliceS at hm
    split at hm
    · rename_i e _
      cases hk : knownT P e && Nat.ble (n * P.cellsOf e) 16777216 && !(Nat.beq (P.cellsOf e) 0) with
      | false => rw [hk] at hm; exact quiet (Quiet.fail _) hm
      | true =>
        rw [hk] at hm
        simp only [cond_true] at hm
        split at hm
        · split at hm
          · rename_i zs _
            cases hb : Nat.beq zs.length (P.cellsOf e) with
            | false => rw [hb] at hm; exact quiet (Quiet.fail _) hm
            | true =>
              rw [hb] at hm
              simp only [cond_true] at hm
              split at hm
              · exact new hm
              · exact quiet (Quiet.fail _) hm
          · exact quiet (Quiet.fail _) hm
        · exact quiet (Quiet.fail _) hm
    · exact quiet (Quiet.fail _) hm
  case makeSlice t l c =>
    unfold makeSliceS at hm
    split at hm
    · rename_i e _ a _ b _ _ _
      split at hm
      · split at hm
        · split at hm
          · rename_i zs _
            cases hb : Nat.beq zs.length (P.cellsOf e) && !(Nat.beq (P.cellsOf e) 0) with
            | false => rw [hb] at hm; exact quiet (Quiet.fail _) hm
            | true =>
              rw [hb] at hm
              simp only [cond_true] at hm
              unfold mrun at hm
              split at hm
              · exact new hm
              · cases hm
          · exact quiet (Quiet.fail _) hm
        · exact quiet (Quiet.fail _) hm
      · exact quiet (Quiet.fail _) hm
    · exact quiet (Quiet.fail _) hm
  case slice t x lo hi mx =>
    refine quiet ?_ hm
    unfold sliceS
    split
    · split
      · have qc : ∀ (b : Bool) (m : OpM), Quiet m nx → Quiet (bif b then m else .fail) nx := fun b m h => by
          cases b
          · exact Quiet.fail _
          · exact h
        refine qc _ _ ?_
        unfold slicedS
        exact Quiet.ite (Quiet.ite (Quiet.done _ _) (Quiet.done _ _)) (Quiet.fail _)
      · exact Quiet.fail _
    · exact Quiet.fail _
  case indexAddr t x ix => exact quiet (quiet_indexAddr _ _ _ _) hm
  case index t x ix => exact quiet (quiet_index _ _ _ _) hm
  case call c =>
    split at hm
    · split at hm
      · rename_i g first caps _
        unfold callM at hm
        cases hk : κ g with
        | none => simp [hk, mrun] at hm
        | some s =>
          simp only [hk] at hm
          exact callS_wf hm
      · exact quiet (Quiet.fail _) hm
    · exact quiet (quiet_builtin _ _ _ _) hm
    · split at hm
      · split at hm
        · rename_i g _
          unfold callM at hm
          cases hk : κ g with
          | none => simp [hk, mrun] at hm
          | some s =>
            simp only [hk] at hm
            exact callS_wf hm
        · exact quiet (Quiet.fail _) hm
      · exact quiet (Quiet.fail _) hm

theorem opM_wf {κ : Nat → Option CSumm} {o : Oper} {ev : Operand → SV} {h : HpF} {r : SV} {ups : List (Nat × Option Chunk)} {nx nx' : Nat} {rs : List Nat} (hm : mrun h (opM P κ o ev nx) = some (r, ups, nx', rs)) :
    nx ≤ nx' ∧ ∀ p ∈ ups, p.1 ∈ rs ∨ (nx ≤ p.1 ∧ p.1 < nx') := by
  rcases opM_cases (P := P) (κ := κ) (o := o) (ev := ev) (nx := nx) with hc | hc <;> rw [hc] at hm
  · obtain ⟨-, h1, h2⟩ := chkM_run hm
    refine ⟨h1, fun p hp => ?_⟩
    rcases h2 p hp with h3 | h3 | h3
    · cases h3
    · exact .inl h3
    · exact .inr h3
  · exact opM0_wf hm

/- In the order of the text. -/
def Fr (nx : Nat) (θ : Th) (h : HpF) : Prop := ∀ x, nx ≤ x → θ x = none ∧ h x = none

theorem Fr.step {nx nx' : Nat} {θ θ' : Th} {h : HpF} {w w' : World} {Im Im' : Nat → Prop} {ups : List (Nat × Option Chunk)} {rs : List Nat} (f : Fr nx θ h) (hle : nx ≤ nx') (hk : ∀ p ∈ ups, p.1 ∈ rs ∨ (nx ≤ p.1 ∧ p.1 < nx')) (hrs : ∀ x ∈ rs, ∃ c, h x = some c)
    (he : Ext (fun x => nx ≤ x ∧ x < nx') h w Im θ (updF ups h) w' Im' θ') : Fr nx' θ' (updF ups h) := by
  intro x hx
  refine ⟨by rw [he.thOld x (by omega)]; exact (f x (by omega)).1, ?_⟩
  rw [updF_not]
  · exact (f x (by omega)).2
  · intro hh
    obtain ⟨p, hp, rfl⟩ := List.mem_map.1 hh
    rcases hk p hp with h1 | h1
    · obtain ⟨c, hc⟩ := hrs _ h1
      rw [(f p.1 (by omega)).2] at hc; cases hc
    · omega

theorem seq_sound {κ : Nat → Option CSumm} (hκ : KOk P κ) {all : List Oper} {n : Nat} {nx0 : Nat} {h0 : HpF} {w0 : World} {Im0 : Nat → Prop} {θ0 : Th} {ro : Option Nat} {ds : List Deferred} {Q : Exit → Act → World → Prop} :
    ∀ {os : List Oper} {T T' : Nat → SV} {h h' : HpF} {nx nx' : Nat} {recs : List Rec}, Txt P κ all n os T h nx recs T' h' nx' →
      ∀ (i : Nat) (a : Act) (w : World) (Im : Nat → Prop) (θ : Th), all.drop i = os → a.defers = ds → SimF P ω n T h a w Im θ → Fr nx θ h → nx0 ≤ nx → Ext (fun x => nx0 ≤ x) h0 w0 Im0 θ0 h w Im θ →
      (∀ a' w' Im' θ', a'.defers = ds → SimF P ω n T' h' a' w' Im' θ' → Fr nx' θ' h' → nx0 ≤ nx' → Ext (fun x => nx0 ≤ x) h0 w0 Im0 θ0 h' w' Im' θ' → Q .normal a' w') → wpOpsIn (FR ro) 0 P all.toArray Q (List.range' i os.length) a w := by
  intro os T T' h h' nx nx' recs ht
  induction ht with
  | nil =>
    intro i a w Im θ _ hdf hs hf hn he hQ
    exact hQ a w Im θ hdf hs hf hn he
  | run hd hw hm _ ih =>
    rename_i o os T T' h h' nx nx1 nx' r ups rs recs _
    intro i a w Im θ hall hdf hs hf hn he hQ
    have ho : all[i]? = some o := by
      have := congrArg (·[0]?) hall
      simpa using this
    obtain ⟨hle, hkeys⟩ := opM_wf hm
    simp only [List.length_cons, List.range'_succ, wpOpsIn, List.getElem?_toArray, ho]
    rw [wanted_eq hs hw]
    simp only [if_true]
    refine op_good hκ hs.hp (fun x _ => hs.eval x) (fun x h1 h2 => hf x h1) hm ro _ _ (fun v w' Im' θ' hE hv hH => ?_)
    have hs' := hs.step hd hE hv hH
    refine ih (i + 1) _ w' Im' θ' ?_ (by rw [put_defers]; exact hdf) hs' (hf.step hle hkeys (mrun_reads _ _ hm) hE) (by omega) (he.trans (hE.mono (fun x hx => by omega))) hQ
    have := congrArg List.tail hall
    simpa using this
  | skip hd hw _ ih =>
    rename_i o os T T' h h' nx nx' recs _
    intro i a w Im θ hall hdf hs hf hn he hQ
    have ho : all[i]? = some o := by
      have := congrArg (·[0]?) hall
      simpa using this
    simp only [List.length_cons, List.range'_succ, wpOpsIn, List.getElem?_toArray, ho]
    rw [wanted_eq hs hw]
    simp only [Bool.false_eq_true, if_false]
    refine ⟨fun f _ => FR_fn ro f, ih (i + 1) _ w Im θ ?_ (by rw [put_defers]; exact hdf) (hs.skip hd) hf hn he hQ⟩
    have := congrArg List.tail hall
    simpa using this

/- In any order. -/
abbrev OR := List (Oper × Rec)
def TD : OR → (Nat → Bool) → Nat → (Nat → SV) → (Nat → SV)
  | [], _, _, T => T
  | (o, ρ) :: l, D, i, T => TD l D (i + 1) (if D i then updT T o.dst ρ.r else T)
def HD : OR → (Nat → Bool) → Nat → HpF → HpF
  | [], _, _, h => h
  | (_, ρ) :: l, D, i, h => HD l D (i + 1) (if D i then updF ρ.ups h else h)

theorem TD_congr : ∀ (l : OR) (D D' : Nat → Bool) (i : Nat) (T T' : Nat → SV) (t : Nat), T t = T' t → (∀ j o ρ, l[j]? = some (o, ρ) → o.dst = some t → D (i + j) = D' (i + j)) → TD l D i T t = TD l D' i T' t
  | [], _, _, _, _, _, _, h, _ => h
  | (o, ρ) :: l, D, D', i, T, T', t, h, hj => by
    simp only [TD]
    refine TD_congr l D D' (i + 1) _ _ t ?_ (fun j o' ρ' hl hd => by
      have := hj (j + 1) o' ρ' (by simpa using hl) hd
      rwa [show i + 1 + j = i + (j + 1) by omega])
    by_cases hd : o.dst = some t
    · have := hj 0 o ρ rfl hd
      simp only [Nat.add_zero] at this
      rw [this]
      cases D' i <;> simp [updT, hd, h]
    · have e : ∀ (S : Nat → SV), updT S o.dst ρ.r t = S t := by
        intro S
        cases ho : o.dst with
        | none => rfl
        | some d =>
          have : t ≠ d := by intro e; subst e; exact hd ho
          simp [updT, this]
      cases D i <;> cases D' i <;> simp [e, h]

theorem HD_congr : ∀ (l : OR) (D D' : Nat → Bool) (i : Nat) (h h' : HpF) (x : Nat), h x = h' x → (∀ j o ρ, l[j]? = some (o, ρ) → x ∈ ρ.ups.map (·.1) → D (i + j) = D' (i + j)) → HD l D i h x = HD l D' i h' x
  | [], _, _, _, _, _, _, h, _ => h
  | (o, ρ) :: l, D, D', i, h, h', x, hx, hj => by
    simp only [HD]
    refine HD_congr l D D' (i + 1) _ _ x ?_ (fun j o' ρ' hl hd => by
      have := hj (j + 1) o' ρ' (by simpa using hl) hd
      rwa [show i + 1 + j = i + (j + 1) by omega])
    by_cases hd : x ∈ ρ.ups.map (·.1)
    · have := hj 0 o ρ rfl hd
      simp only [Nat.add_zero] at this
      rw [this]
      cases D' i
      · simpa using hx
      · simp only [if_true]; exact updF_key hd
    · have e : ∀ (S : HpF), updF ρ.ups S x = S x := fun S => updF_not hd
      cases D i <;> cases D' i <;> simp [e, hx]

/-- One more. -/
theorem TD_add : ∀ (l : OR) (D : Nat → Bool) (i k : Nat) (T : Nat → SV) (o : Oper) (ρ : Rec), l[k]? = some (o, ρ) → D (i + k) = false → (∀ j o' ρ', k < j → l[j]? = some (o', ρ') → D (i + j) = true → ∀ d, o.dst = some d → o'.dst ≠ some d) →
    TD l (fun j => D j || j == i + k) i T = updT (TD l D i T) o.dst ρ.r
  | [], _, _, _, _, _, _, h, _, _ => by simp at h
  | (o1, ρ1) :: l, D, i, 0, T, o, ρ, h, hD, hj => by
    simp only [List.getElem?_cons_zero, Option.some.injEq, Prod.mk.injEq] at h
    obtain ⟨rfl, rfl⟩ := h
    simp only [Nat.add_zero] at hD
    funext t
    simp only [TD, Nat.add_zero, beq_self_eq_true, Bool.or_true, if_true, hD, Bool.false_eq_true, if_false]
    by_cases hd : o1.dst = some t
    · have e1 : TD l (fun j => D j || j == i) (i + 1) (updT T o1.dst ρ1.r) t = updT T o1.dst ρ1.r t := by
        have gen : ∀ (l' : OR) (i' : Nat) (S : Nat → SV), (∀ j o' ρ', l'[j]? = some (o', ρ') → (fun j => D j || j == i) (i' + j) = true → o'.dst ≠ some t) → TD l' (fun j => D j || j == i) i' S t = S t := by
          intro l'
          induction l' with
          | nil => intros; rfl
          | cons p l' ih =>
            obtain ⟨o2, ρ2⟩ := p
            intro i' S hh
            simp only [TD]
            rw [ih (i' + 1) _ (fun j o' ρ' hl hD' => hh (j + 1) o' ρ' (by simpa using hl) (by rwa [show i' + (j + 1) = i' + 1 + j by omega]))]
            split
            · rename_i hDi
              have := hh 0 o2 ρ2 rfl (by simpa using hDi)
              cases h2 : o2.dst with
              | none => rfl
              | some d2 =>
                have : t ≠ d2 := by intro e; subst e; exact this h2
                simp [updT, this]
            · rfl
        refine gen l (i + 1) _ (fun j o' ρ' hl hD' => ?_)
        refine hj (j + 1) o' ρ' (by omega) (by simpa using hl) ?_ t hd
        rw [show i + (j + 1) = i + 1 + j by omega]
        simp only [Bool.or_eq_true] at hD'
        rcases hD' with h1 | h1
        · exact h1
        · simp at h1; omega
      rw [e1]
      simp [updT, hd]
    · have e : ∀ (S : Nat → SV), updT S o1.dst ρ1.r t = S t := by
        intro S
        cases ho : o1.dst with
        | none => rfl
        | some d =>
          have : t ≠ d := by intro e; subst e; exact hd ho
          simp [updT, this]
      rw [e]
      refine TD_congr l _ _ (i + 1) _ _ t (e T) (fun j o' ρ' hl hd' => ?_)
      have : (i + 1 + j == i) = false := by simp; omega
      simp [this]
  | (o1, ρ1) :: l, D, i, k + 1, T, o, ρ, h, hD, hj => by
    simp only [TD]
    have hne : (i == i + (k + 1)) = false := by simp
    simp only [hne, Bool.or_false]
    rw [show (fun j => D j || j == i + (k + 1)) = (fun j => D j || j == (i + 1) + k) by funext j; rw [show i + (k + 1) = i + 1 + k by omega]]
    exact TD_add l D (i + 1) k _ o ρ (by simpa using h) (by rwa [show i + 1 + k = i + (k + 1) by omega]) (fun j o' ρ' hkj hl hD' => hj (j + 1) o' ρ' (by omega) (by simpa using hl) (by rwa [show i + (j + 1) = i + 1 + j by omega]))

theorem HD_add : ∀ (l : OR) (D : Nat → Bool) (i k : Nat) (h : HpF) (o : Oper) (ρ : Rec), l[k]? = some (o, ρ) → D (i + k) = false → (∀ j o' ρ', k < j → l[j]? = some (o', ρ') → D (i + j) = true → ∀ x, x ∈ ρ.ups.map (·.1) → x ∉ ρ'.ups.map (·.1)) →
    HD l (fun j => D j || j == i + k) i h = updF ρ.ups (HD l D i h)
  | [], _, _, _, _, _, _, h, _, _ => by simp at h
  | (o1, ρ1) :: l, D, i, 0, h0, o, ρ, h, hD, hj => by
    simp only [List.getElem?_cons_zero, Option.some.injEq, Prod.mk.injEq] at h
    obtain ⟨rfl, rfl⟩ := h
    simp only [Nat.add_zero] at hD
    funext x
    simp only [HD, Nat.add_zero, beq_self_eq_true, Bool.or_true, if_true, hD, Bool.false_eq_true, if_false]
    by_cases hd : x ∈ ρ1.ups.map (·.1)
    · have e1 : HD l (fun j => D j || j == i) (i + 1) (updF ρ1.ups h0) x = updF ρ1.ups h0 x := by
        have gen : ∀ (l' : OR) (i' : Nat) (S : HpF), (∀ j o' ρ', l'[j]? = some (o', ρ') → (fun j => D j || j == i) (i' + j) = true → x ∉ ρ'.ups.map (·.1)) → HD l' (fun j => D j || j == i) i' S x = S x := by
          intro l'
          induction l' with
          | nil => intros; rfl
          | cons p l' ih =>
            obtain ⟨o2, ρ2⟩ := p
            intro i' S hh
            simp only [HD]
            rw [ih (i' + 1) _ (fun j o' ρ' hl hD' => hh (j + 1) o' ρ' (by simpa using hl) (by rwa [show i' + (j + 1) = i' + 1 + j by omega]))]
            split
            · rename_i hDi
              have := hh 0 o2 ρ2 rfl (by simpa using hDi)
              exact updF_not this
            · rfl
        refine gen l (i + 1) _ (fun j o' ρ' hl hD' => ?_)
        refine hj (j + 1) o' ρ' (by omega) (by simpa using hl) ?_ x hd
        rw [show i + (j + 1) = i + 1 + j by omega]
        simp only [Bool.or_eq_true] at hD'
        rcases hD' with h1 | h1
        · exact h1
        · simp at h1; omega
      rw [e1]
      exact updF_key hd
    · rw [updF_not hd]
      refine HD_congr l _ _ (i + 1) _ _ x (updF_not hd) (fun j o' ρ' hl hd' => ?_)
      have : (i + 1 + j == i) = false := by simp; omega
      simp [this]
  | (o1, ρ1) :: l, D, i, k + 1, h0, o, ρ, h, hD, hj => by
    simp only [HD]
    have hne : (i == i + (k + 1)) = false := by simp
    simp only [hne, Bool.or_false]
    rw [show (fun j => D j || j == i + (k + 1)) = (fun j => D j || j == (i + 1) + k) by funext j; rw [show i + (k + 1) = i + 1 + k by omega]]
    exact HD_add l D (i + 1) k _ o ρ (by simpa using h) (by rwa [show i + 1 + k = i + (k + 1) by omega]) (fun j o' ρ' hkj hl hD' => hj (j + 1) o' ρ' (by omega) (by simpa using hl) (by rwa [show i + (j + 1) = i + 1 + j by omega]))

theorem TD_shift : ∀ (l : OR) (D : Nat → Bool) (i : Nat) (T : Nat → SV), TD l D (i + 1) T = TD l (fun j => D (j + 1)) i T
  | [], _, _, _ => rfl
  | (o, ρ) :: l, D, i, T => by simp only [TD]; exact TD_shift l D (i + 1) _
theorem HD_shift : ∀ (l : OR) (D : Nat → Bool) (i : Nat) (h : HpF), HD l D (i + 1) h = HD l (fun j => D (j + 1)) i h
  | [], _, _, _ => rfl
  | (o, ρ) :: l, D, i, h => by simp only [HD]; exact HD_shift l D (i + 1) _
theorem TD_none : ∀ (l : OR) (D : Nat → Bool) (i : Nat) (T : Nat → SV), (∀ j, i ≤ j → D j = false) → TD l D i T = T
  | [], _, _, _, _ => rfl
  | (o, ρ) :: l, D, i, T, h => by
    simp only [TD, h i (Nat.le_refl _), Bool.false_eq_true, if_false]
    exact TD_none l D (i + 1) T (fun j hj => h j (by omega))
theorem HD_none : ∀ (l : OR) (D : Nat → Bool) (i : Nat) (h : HpF), (∀ j, i ≤ j → D j = false) → HD l D i h = h
  | [], _, _, _, _ => rfl
  | (o, ρ) :: l, D, i, h0, h => by
    simp only [HD, h i (Nat.le_refl _), Bool.false_eq_true, if_false]
    exact HD_none l D (i + 1) h0 (fun j hj => h j (by omega))

def upTo (i : Nat) : Nat → Bool := fun j => Nat.blt j i
theorem upTo_iff {i j : Nat} : upTo i j = true ↔ j < i := by simp [upTo, Nat.blt_eq]
theorem upTo_false {i j : Nat} : upTo i j = false ↔ ¬ j < i := by
  rw [← upTo_iff]; simp
theorem upTo_succ (i : Nat) : (fun j => upTo (i + 1) (j + 1)) = upTo i := by
  funext j
  have h1 := @upTo_iff (i + 1) (j + 1)
  have h2 := @upTo_iff i j
  cases h3 : upTo (i + 1) (j + 1) <;> cases h4 : upTo i j <;> first | rfl | (rw [h3] at h1; rw [h4] at h2; simp at h1 h2; omega)

structure Fact (P : Program) (κ : Nat → Option CSumm) (all : List Oper) (n : Nat) (l : OR) (T : Nat → SV) (h : HpF) (nx nx' : Nat) (i : Nat) (o : Oper) (ρ : Rec) : Prop where
  dst : dstN n o.dst
  want : wantedT all n (TD l (upTo i) 0 T) o = some ρ.ex
  run : ρ.ex = true → mrun (HD l (upTo i) 0 h) (opM P κ o (evT (TD l (upTo i) 0 T)) ρ.nx0) = some (ρ.r, ρ.ups, ρ.nx1, ρ.rs)
  idle : ρ.ex = false → ρ.r = .tup [] ∧ ρ.ups = [] ∧ ρ.nx1 = ρ.nx0 ∧ ρ.rs = []
  lo : nx ≤ ρ.nx0
  mid : ρ.nx0 ≤ ρ.nx1
  hi : ρ.nx1 ≤ nx'
  dom : ∀ x c, HD l (upTo i) 0 h x = some c → x < ρ.nx0

theorem txt_facts {κ : Nat → Option CSumm} {all : List Oper} {n : Nat} {os : List Oper} {T T' : Nat → SV} {h h' : HpF} {nx nx' : Nat} {recs : List Rec} (ht : Txt P κ all n os T h nx recs T' h' nx') :
    (∀ x c, h x = some c → x < nx) → recs.length = os.length ∧ nx ≤ nx' ∧ T' = TD (os.zip recs) (fun _ => true) 0 T ∧ h' = HD (os.zip recs) (fun _ => true) 0 h ∧
      (∀ (i : Nat) (o : Oper) (ρ : Rec), (os.zip recs)[i]? = some (o, ρ) → Fact P κ all n (os.zip recs) T h nx nx' i o ρ) ∧
      (∀ (i j : Nat) (o : Oper) (ρ : Rec) (o' : Oper) (ρ' : Rec), i < j → (os.zip recs)[i]? = some (o, ρ) → (os.zip recs)[j]? = some (o', ρ') → ρ.nx1 ≤ ρ'.nx0) := by
  induction ht with
  | nil => intro _; exact ⟨rfl, Nat.le_refl _, rfl, rfl, fun i o ρ h => by simp at h, fun i j o ρ o' ρ' _ h => by simp at h⟩
  | run hd hw hm _ ih =>
    rename_i o os T T' h h' nx nx1 nx' r ups rs recs _
    intro hdom
    obtain ⟨hle, hkeys⟩ := opM_wf hm
    have hdom1 : ∀ x c, updF ups h x = some c → x < nx1 := by
      intro x c hx
      rcases updF_mem hx with h1 | ⟨_, h1⟩
      · rcases hkeys _ h1 with h2 | h2
        · obtain ⟨c', hc'⟩ := mrun_reads _ _ hm x h2
          have := hdom x c' hc'; omega
        · exact h2.2
      · have := hdom x c h1; omega
    obtain ⟨i1, i2, i3, i4, i5, i6⟩ := ih hdom1
    refine ⟨by simp [i1], by omega, ?_, ?_, ?_, ?_⟩
    · simp only [List.zip_cons_cons, TD, if_true]; rw [TD_shift]; exact i3
    · simp only [List.zip_cons_cons, HD, if_true]; rw [HD_shift]; exact i4
    · intro i o' ρ' hi
      cases i with
      | zero =>
        simp only [List.zip_cons_cons, List.getElem?_cons_zero, Option.some.injEq, Prod.mk.injEq] at hi
        obtain ⟨rfl, rfl⟩ := hi
        have hz : ∀ j, 0 ≤ j → upTo 0 j = false := fun j _ => upTo_false.2 (by omega)
        refine ⟨hd, ?_, fun _ => ?_, (fun h => by cases h), Nat.le_refl _, hle, i2, ?_⟩
        · rw [TD_none _ _ _ _ hz]; exact hw
        · rw [TD_none _ _ _ _ hz, HD_none _ _ _ _ hz]; exact hm
        · rw [HD_none _ _ _ _ hz]; exact hdom
      | succ i =>
        have f := i5 i o' ρ' (by simpa using hi)
        have e1 : TD (((o, (⟨true, r, ups, nx, nx1, rs⟩ : Rec)) :: os.zip recs)) (upTo (i + 1)) 0 T = TD (os.zip recs) (upTo i) 0 (updT T o.dst r) := by
          simp only [TD, upTo_iff.2 (Nat.succ_pos i), if_true]
          rw [TD_shift, upTo_succ]
        have e2 : HD (((o, (⟨true, r, ups, nx, nx1, rs⟩ : Rec)) :: os.zip recs)) (upTo (i + 1)) 0 h = HD (os.zip recs) (upTo i) 0 (updF ups h) := by
          simp only [HD, upTo_iff.2 (Nat.succ_pos i), if_true]
          rw [HD_shift, upTo_succ]
        simp only [List.zip_cons_cons]
        refine ⟨f.dst, ?_, fun he => ?_, f.idle, by have := f.lo; omega, f.mid, f.hi, ?_⟩
        · rw [e1]; exact f.want
        · rw [e1, e2]; exact f.run he
        · rw [e2]; exact f.dom
    · intro i j o1 ρ1 o2 ρ2 hij hi hj
      cases j with
      | zero => omega
      | succ j =>
        cases i with
        | zero =>
          simp only [List.zip_cons_cons, List.getElem?_cons_zero, Option.some.injEq, Prod.mk.injEq] at hi
          obtain ⟨rfl, rfl⟩ := hi
          exact (i5 j o2 ρ2 (by simpa using hj)).lo
        | succ i => exact i6 i j o1 ρ1 o2 ρ2 (by omega) (by simpa using hi) (by simpa using hj)
  | skip hd hw _ ih =>
    rename_i o os T T' h h' nx nx' recs _
    intro hdom
    obtain ⟨i1, i2, i3, i4, i5, i6⟩ := ih hdom
    refine ⟨by simp [i1], by omega, ?_, ?_, ?_, ?_⟩
    · simp only [List.zip_cons_cons, TD, if_true]; rw [TD_shift]; exact i3
    · simp only [List.zip_cons_cons, HD, if_true, updF]; rw [HD_shift]; exact i4
    · intro i o' ρ' hi
      cases i with
      | zero =>
        simp only [List.zip_cons_cons, List.getElem?_cons_zero, Option.some.injEq, Prod.mk.injEq] at hi
        obtain ⟨rfl, rfl⟩ := hi
        have hz : ∀ j, 0 ≤ j → upTo 0 j = false := fun j _ => upTo_false.2 (by omega)
        refine ⟨hd, ?_, (fun h => by cases h), fun _ => ⟨rfl, rfl, rfl, rfl⟩, Nat.le_refl _, Nat.le_refl _, i2, ?_⟩
        · rw [TD_none _ _ _ _ hz]; exact hw
        · rw [HD_none _ _ _ _ hz]; exact hdom
      | succ i =>
        have f := i5 i o' ρ' (by simpa using hi)
        have e1 : TD (((o, (⟨false, .tup [], [], nx, nx, []⟩ : Rec)) :: os.zip recs)) (upTo (i + 1)) 0 T = TD (os.zip recs) (upTo i) 0 (updT T o.dst (.tup [])) := by
          simp only [TD, upTo_iff.2 (Nat.succ_pos i), if_true]
          rw [TD_shift, upTo_succ]
        have e2 : HD (((o, (⟨false, .tup [], [], nx, nx, []⟩ : Rec)) :: os.zip recs)) (upTo (i + 1)) 0 h = HD (os.zip recs) (upTo i) 0 h := by
          simp only [HD, upTo_iff.2 (Nat.succ_pos i), if_true, updF]
          rw [HD_shift, upTo_succ]
        simp only [List.zip_cons_cons]
        refine ⟨f.dst, ?_, fun he => ?_, f.idle, f.lo, f.mid, f.hi, ?_⟩
        · rw [e1]; exact f.want
        · rw [e1, e2]; exact f.run he
        · rw [e2]; exact f.dom
    · intro i j o1 ρ1 o2 ρ2 hij hi hj
      cases j with
      | zero => omega
      | succ j =>
        cases i with
        | zero =>
          simp only [List.zip_cons_cons, List.getElem?_cons_zero, Option.some.injEq, Prod.mk.injEq] at hi
          obtain ⟨rfl, rfl⟩ := hi
          exact (i5 j o2 ρ2 (by simpa using hj)).lo
        | succ i => exact i6 i j o1 ρ1 o2 ρ2 (by omega) (by simpa using hi) (by simpa using hj)

end Go.Am
