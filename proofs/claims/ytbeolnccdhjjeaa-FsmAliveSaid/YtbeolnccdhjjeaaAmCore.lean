/- The abstract machine: an evaluator of the model's code over symbolic values. Definitions alone. -/
import GoSem.Dispatch
import Derived.WalkKit
import Derived.Lib.Bytealg
namespace Go.Am

/-- Symbolic values: the structure is written out, the leaves are plain terms. -/
inductive SV where
  | junk
  | opq (n : Nat)
  | bool (b : Bool)
  | int (k : IntKind) (n : Int)
  | str (s : List UInt8)
  | ptr (x off : Nat)
  | nilp
  | pel (v : SV) (off : Nat)
  | sl (x sz off len : Nat)
  | nils
  | psl (e : TypeId) (es : List SV)
  | pnn (e : TypeId) (es : List SV)
  | emp
  | qs (x sz l n : Nat)
  | qp (x sz i off : Nat)
  | mp (x : Nat)
  | nilm
  | yl (x : Nat)
  | fn (f : Fn) (first caps : List SV)
  | nilf
  | iface (t : TypeId) (v : SV)
  | nili
  | agg (cs : List SV)
  | tup (vs : List SV)
  deriving Inhabited

/-- How code is left. -/
inductive Ex where
  | normal | exit (id : Nat) | ret
  deriving Inhabited
/-- Where a range over a function stands. -/
inductive LS where
  | ready | busy | done (e : Ex)
  deriving Inhabited

inductive Chunk where
  | cells (T : TypeId) (vs : List SV)
  | seq (e : TypeId) (es : List SV)
  | loopr (st : LS) (vs : List SV) (ps : Array Nat) (asg bdy : Code)
  | mpc (ks vs : List SV)
  deriving Inhabited

/-- A trie keyed by numbers. -/
inductive Tr (α : Type) where
  | lf
  | nd (v : Option α) (l r : Tr α)

theorem nb_t {a b : Nat} (h : a = b) : Nat.beq a b = true := by subst h; exact Nat.beq_refl a
theorem nb_f {a b : Nat} (h : ¬ a = b) : Nat.beq a b = false := by
  cases e : Nat.beq a b with
  | false => rfl
  | true => exact absurd (Nat.eq_of_beq_eq_true e) h

namespace Tr
variable {α : Type}
def get : Tr α → Nat → Option α
  | .lf, _ => none
  | .nd v l r, n => bif Nat.beq n 0 then v else bif Nat.beq (n % 2) 1 then l.get (n / 2) else r.get (n / 2 - 1)
/-- Fuel d: keys below 2^d - 1. -/
def set : Nat → Tr α → Nat → Option α → Tr α
  | 0, t, _, _ => t
  | d + 1, .lf, n, u => bif Nat.beq n 0 then .nd u .lf .lf else bif Nat.beq (n % 2) 1 then .nd none (set d .lf (n / 2) u) .lf else .nd none .lf (set d .lf (n / 2 - 1) u)
  | d + 1, .nd v l r, n, u => bif Nat.beq n 0 then .nd u l r else bif Nat.beq (n % 2) 1 then .nd v (set d l (n / 2) u) r else .nd v l (set d r (n / 2 - 1) u)

theorem get_lf (n : Nat) : (Tr.lf : Tr α).get n = none := rfl
theorem get_set (d : Nat) : ∀ (t : Tr α) (n : Nat) (u : Option α) (m : Nat), n < 2 ^ d - 1 → (set d t n u).get m = if m = n then u else t.get m := by
  induction d with
  | zero => intro t n u m h; simp at h
  | succ d ih =>
    intro t n u m h
    have hp : 2 ^ (d + 1) = 2 * 2 ^ d := by rw [Nat.pow_succ]; omega
    have h1 : 1 ≤ 2 ^ d := Nat.one_le_two_pow
    cases t with
    | lf =>
      simp only [set]
      by_cases hn : n = 0
      · subst hn
        by_cases hm : m = 0
        · subst hm; simp [get]
        · have := nb_f hm
          simp [get, this, hm]
      · have hb : Nat.beq n 0 = false := nb_f hn
        simp only [hb, cond_false]
        by_cases ho : n % 2 = 1
        · have hb2 : Nat.beq (n % 2) 1 = true := nb_t ho
          simp only [hb2, cond_true]
          by_cases hm : m = 0
          · subst hm; simp [get]; intro e; exact absurd e.symm hn
          · have hbm : Nat.beq m 0 = false := nb_f hm
            by_cases hom : m % 2 = 1
            · have hb3 : Nat.beq (m % 2) 1 = true := nb_t hom
              simp only [get, hbm, hb3, cond_false, cond_true]
              rw [ih _ _ _ _ (by omega)]
              have : (m / 2 = n / 2) ↔ m = n := by omega
              simp [this, get]
            · have hb3 : Nat.beq (m % 2) 1 = false := nb_f hom
              have : m ≠ n := by intro e; subst e; exact hom ho
              simp [get, hbm, hb3, this]
        · have hb2 : Nat.beq (n % 2) 1 = false := nb_f ho
          simp only [hb2, cond_false]
          by_cases hm : m = 0
          · subst hm; simp [get]; intro e; exact absurd e.symm hn
          · have hbm : Nat.beq m 0 = false := nb_f hm
            by_cases hom : m % 2 = 1
            · have hb3 : Nat.beq (m % 2) 1 = true := nb_t hom
              have : m ≠ n := by intro e; subst e; exact ho hom
              simp [get, hbm, hb3, this]
            · have hb3 : Nat.beq (m % 2) 1 = false := nb_f hom
              simp only [get, hbm, hb3, cond_false]
              rw [ih _ _ _ _ (by omega)]
              have : (m / 2 - 1 = n / 2 - 1) ↔ m = n := by omega
              simp [this, get]
    | nd v l r =>
      simp only [set]
      by_cases hn : n = 0
      · subst hn
        by_cases hm : m = 0
        · subst hm; simp [get]
        · have := nb_f hm
          simp [get, this, hm]
      · have hb : Nat.beq n 0 = false := nb_f hn
        simp only [hb, cond_false]
        by_cases ho : n % 2 = 1
        · have hb2 : Nat.beq (n % 2) 1 = true := nb_t ho
          simp only [hb2, cond_true]
          by_cases hm : m = 0
          · subst hm; simp [get]; intro e; exact absurd e.symm hn
          · have hbm : Nat.beq m 0 = false := nb_f hm
            by_cases hom : m % 2 = 1
            · have hb3 : Nat.beq (m % 2) 1 = true := nb_t hom
              simp only [get, hbm, hb3, cond_false, cond_true]
              rw [ih _ _ _ _ (by omega)]
              have : (m / 2 = n / 2) ↔ m = n := by omega
              simp [this]
            · have hb3 : Nat.beq (m % 2) 1 = false := nb_f hom
              have : m ≠ n := by intro e; subst e; exact hom ho
              simp [get, hbm, hb3, this]
        · have hb2 : Nat.beq (n % 2) 1 = false := nb_f ho
          simp only [hb2, cond_false]
          by_cases hm : m = 0
          · subst hm; simp [get]; intro e; exact absurd e.symm hn
          · have hbm : Nat.beq m 0 = false := nb_f hm
            by_cases hom : m % 2 = 1
            · have hb3 : Nat.beq (m % 2) 1 = true := nb_t hom
              have : m ≠ n := by intro e; subst e; exact ho hom
              simp [get, hbm, hb3, this]
            · have hb3 : Nat.beq (m % 2) 1 = false := nb_f hom
              simp only [get, hbm, hb3, cond_false]
              rw [ih _ _ _ _ (by omega)]
              have : (m / 2 - 1 = n / 2 - 1) ↔ m = n := by omega
              simp [this]
end Tr

/- Types. -/
def isAggT (P : Program) (t : TypeId) : Bool :=
  match P.underlying t with
  | some (.struct _) | some (.array _ _) => true
  | _ => false

def ikEq : IntKind → IntKind → Bool
  | .i8, .i8 | .i16, .i16 | .i32, .i32 | .i64, .i64 | .u8, .u8 | .u16, .u16 | .u32, .u32 | .u64, .u64 => true
  | _, _ => false

def repL {α : Type} : Nat → List α → List α
  | 0, _ => []
  | n + 1, l => l ++ repL n l

/-- The types of the cells of a value of type t. -/
def leaves (P : Program) : Nat → TypeId → List TypeId
  | 0, _ => []
  | d + 1, t =>
    match P.underlying t with
    | some (.struct fs) => fs.toList.flatMap fun f => leaves P d f.type
    | some (.array n e) => repL n (leaves P d e)
    | _ => [t]

def asB : SV → Bool
  | .bool b => b
  | _ => false
def asI : SV → Int
  | .int _ n => n
  | _ => 0
def asS : SV → List UInt8
  | .str s => s
  | _ => []
def asL : SV → List SV
  | .psl _ l => l
  | _ => []
def cellAt : SV → Nat → SV
  | .agg cs, j => cs.getD j .junk
  | _, _ => .junk

def expandLeaf (P : Program) (t : TypeId) (c : SV) : SV :=
  match P.underlying t with
  | some .bool => .bool (asB c)
  | some (.int k) => .int k (asI c)
  | some .string => .str (asS c)
  | some (.slice e) => .psl e (asL c)
  | _ => c
def expandFrom (P : Program) (v : SV) : List TypeId → Nat → List SV
  | [], _ => []
  | u :: us, j => expandLeaf P u (cellAt v j) :: expandFrom P v us (j + 1)
/-- A value of type t of which nothing is known, written out. -/
def expand (P : Program) (t : TypeId) (v : SV) : SV :=
  bif isAggT P t then .agg (expandFrom P v (leaves P 40 t) 0) else expandLeaf P t v

/-- What the leaf is worth inside memory that is known by content: a nil slice is an empty one. -/
def coerceLeaf (P : Program) (t : TypeId) (c : SV) : SV :=
  match P.underlying t, c with
  | some (.slice e), .nils => .psl e []
  | _, c => c
def coerceFrom (P : Program) : List TypeId → List SV → List SV
  | u :: us, c :: cs => coerceLeaf P u c :: coerceFrom P us cs
  | _, _ => []
def coerce (P : Program) (t : TypeId) (v : SV) : SV :=
  bif isAggT P t then
    match v with
    | .agg cs => .agg (coerceFrom P (leaves P 40 t) cs)
    | v => v
  else coerceLeaf P t v

/-- The leaf is written out as its type asks, and names no block. -/
def fitsLeaf (P : Program) (t : TypeId) (c : SV) : Bool :=
  match P.underlying t, c with
  | some .bool, .bool _ => true
  | some .bool, _ => false
  | some (.int k), .int k' _ => ikEq k k'
  | some (.int _), _ => false
  | some .string, .str _ => true
  | some .string, _ => false
  | some (.slice e), .psl e' _ => Nat.beq e e'
  | some (.slice _), _ => false
  | some (.interface _), .nili => true
  | _, _ => false
def fitsAll (P : Program) : List TypeId → List SV → Bool
  | [], [] => true
  | u :: us, c :: cs => fitsLeaf P u c && fitsAll P us cs
  | _, _ => false
def fits (P : Program) (t : TypeId) (v : SV) : Bool :=
  bif isAggT P t then
    match v with
    | .agg cs => fitsAll P (leaves P 40 t) cs
    | _ => false
  else fitsLeaf P t v

/-- The cells of a value that is written out. -/
def oneS : SV → Bool
  | .junk | .opq _ | .tup _ | .agg _ => false
  | _ => true
def allOne : List SV → Bool
  | [] => true
  | v :: vs => oneS v && allOne vs
def cellsS (v : SV) : Option (List SV) :=
  match v with
  | .junk => none
  | .opq _ => none
  | .tup _ => none
  | .agg cs => bif allOne cs then some cs else none
  | v => some [v]

def ofScalar : Value → SV
  | .bool b => .bool b
  | .int k n => .int k n
  | .string s => .str s.data.toList
  | .pointer none => .nilp
  | .slice none 0 0 => .nils
  | .map none => .nilm
  | .nilFunc => .nilf
  | .nilIface => .nili
  | _ => .junk
def ofValue : Value → SV
  | .agg cs => .agg (cs.toList.map ofScalar)
  | .iface t v => .iface t (ofScalar v)
  | v => ofScalar v

/-- What an operation comes to. -/
inductive OpM where
  | done (r : SV) (ups : List (Nat × Option Chunk)) (nx : Nat)
  | get (x : Nat) (k : Chunk → OpM)
  | ite (b : Bool) (t e : OpM)
  | fail

abbrev HpL := List (Nat × Chunk)
def HpL.get : HpL → Nat → Option Chunk
  | [], _ => none
  | (x, c) :: h, y => bif Nat.beq x y then some c else HpL.get h y

/-- What a callee comes to. -/
inductive STree where
  | ret (v : SV) (h : HpL)
  | ite (b : Bool) (t e : STree)
  | fail
abbrev Summ := List SV → HpL → STree

def takeN {α : Type} : List α → Nat → Nat → Option (List α)
  | _, 0, 0 => some []
  | [], _, _ => none
  | _ :: l, o + 1, n => takeN l o n
  | x :: l, 0, n + 1 => match takeN l 0 n with
    | some r => some (x :: r)
    | none => none
def splice {α : Type} : List α → Nat → List α → Option (List α)
  | l, 0, [] => some l
  | [], _, _ => none
  | x :: l, o + 1, vs => match splice l o vs with
    | some r => some (x :: r)
    | none => none
  | _ :: l, 0, v :: vs => match splice l 0 vs with
    | some r => some (v :: r)
    | none => none

def nth? {α : Type} : List α → Nat → Option α
  | [], _ => none
  | x :: _, 0 => some x
  | _ :: l, n + 1 => nth? l n

/-- A value of type t out of a row of cells. -/
def partS (P : Program) (t : TypeId) (vs : List SV) (off : Nat) : Option SV :=
  match P.underlying t with
  | none => none
  | some (.struct _) => match takeN vs off (P.cellsOf t) with
    | some cs => some (.agg cs)
    | none => none
  | some (.array _ _) => match takeN vs off (P.cellsOf t) with
    | some cs => some (.agg cs)
    | none => none
  | some _ => nth? vs off

/- Integers, bools, strings. -/
def intBin (op : BinOp) (k : IntKind) (a b : Int) : OpM → Nat → OpM := fun _ nx =>
  match op with
  | .add => .done (.int k (k.wrap (a + b))) [] nx
  | .sub => .done (.int k (k.wrap (a - b))) [] nx
  | .mul => .done (.int k (k.wrap (a * b))) [] nx
  | .quo => .ite (b == 0) .fail (.done (.int k (k.wrap (a.tdiv b))) [] nx)
  | .rem => .ite (b == 0) .fail (.done (.int k (a.tmod b)) [] nx)
  | .and => .done (.int k (k.wrap (BitVec.ofInt k.bits a &&& BitVec.ofInt k.bits b).toNat)) [] nx
  | .or => .done (.int k (k.wrap (BitVec.ofInt k.bits a ||| BitVec.ofInt k.bits b).toNat)) [] nx
  | .xor => .done (.int k (k.wrap (BitVec.ofInt k.bits a ^^^ BitVec.ofInt k.bits b).toNat)) [] nx
  | .andNot => .done (.int k (k.wrap (BitVec.ofInt k.bits a &&& ~~~ BitVec.ofInt k.bits b).toNat)) [] nx
  | .eql => .done (.bool (a == b)) [] nx
  | .neq => .done (.bool (a != b)) [] nx
  | .lss => .done (.bool (decide (a < b))) [] nx
  | .leq => .done (.bool (decide (a ≤ b))) [] nx
  | .gtr => .done (.bool (decide (a > b))) [] nx
  | .geq => .done (.bool (decide (a ≥ b))) [] nx
  | _ => .fail
def shiftS (op : BinOp) (k : IntKind) (a b : Int) (nx : Nat) : OpM :=
  match op with
  | .shl => .ite (decide (b < 0)) .fail (.done (.int k (k.wrap (a * 2 ^ (min b.toNat k.bits)))) [] nx)
  | .shr => .ite (decide (b < 0)) .fail (.done (.int k (a.fdiv (2 ^ (min b.toNat k.bits)))) [] nx)
  | _ => .fail
def strBin (op : BinOp) (a b : List UInt8) (nx : Nat) : OpM :=
  match op with
  | .add => .ite (decide ((a.length + b.length : Int) ≤ 9223372036854775807)) (.done (.str (a ++ b)) [] nx) .fail
  | .eql => .done (.bool (a == b)) [] nx
  | .neq => .done (.bool (!(a == b))) [] nx
  | .lss => .done (.bool (Op.bytesLess a b)) [] nx
  | .leq => .done (.bool (Op.bytesLess a b || a == b)) [] nx
  | .gtr => .done (.bool (!(Op.bytesLess a b || a == b))) [] nx
  | .geq => .done (.bool (!(Op.bytesLess a b))) [] nx
  | _ => .fail

/-- '==' of two leaves. -/
def eqLeaf : SV → SV → Option Bool
  | .bool a, .bool b => some (a == b)
  | .int _ a, .int _ b => some (a == b)
  | .str a, .str b => some (a == b)
  | _, _ => none
def eqLeaves : List SV → List SV → Option Bool
  | [], [] => some true
  | [a], [b] => eqLeaf a b
  | a :: as, b :: bs => match eqLeaf a b, eqLeaves as bs with
    | some x, some y => some (x && y)
    | _, _ => none
  | _, _ => none
def fieldsEq (P : Program) (rec : TypeId → Bool) : List Field → Nat → Nat → Bool
  | [], o, n => Nat.beq o n
  | f :: fs, o, n => f.name != "_" && Nat.beq f.offset o && rec f.type && fieldsEq P rec fs (o + P.cellsOf f.type) n
/-- The type is made of bools, integers and strings, laid one after another, and has no blank field. -/
def plainEq (P : Program) : Nat → TypeId → Bool
  | 0, _ => false
  | d + 1, t =>
    match P.underlying t with
    | some .bool => Nat.beq (P.cellsOf t) 1
    | some (.int _) => Nat.beq (P.cellsOf t) 1
    | some .string => Nat.beq (P.cellsOf t) 1
    | some (.struct fs) => !P.stoodInHeld t && fieldsEq P (plainEq P d) fs.toList 0 (P.cellsOf t)
    | some (.array n e) => plainEq P d e && Nat.beq (n * P.cellsOf e) (P.cellsOf t)
    | _ => false

def nilEq (P : Program) (t : TypeId) (x y : SV) : Option Bool :=
  match P.underlying t, x, y with
  | some (.pointer _), .nilp, .nilp => some true
  | some (.pointer _), .ptr _ _, .nilp => some false
  | some (.pointer _), .nilp, .ptr _ _ => some false
  | some (.slice _), .nils, .nils => some true
  | some (.slice _), .psl _ (_ :: _), .nils => some false
  | some (.slice _), .nils, .psl _ (_ :: _) => some false
  | some (.func _ _ _), .nilf, .nilf => some true
  | some (.func _ _ _), .fn _ _ _, .nilf => some false
  | some (.func _ _ _), .nilf, .fn _ _ _ => some false
  | some (.map _ _), .nilm, .nilm => some true
  | some (.map _ _), .mp _, .nilm => some false
  | some (.interface _), .iface _ _, .nili => some false
  | some (.interface _), .nili, .iface _ _ => some false
  | _, _, _ => none

def isEq : BinOp → Option Bool
  | .eql => some true
  | .neq => some false
  | _ => none

def binS (P : Program) (op : BinOp) (t : TypeId) (x y : SV) (nx : Nat) : OpM :=
  match x, y with
  | .int k a, .int k' b =>
    match op with
    | .shl | .shr => shiftS op k a b nx
    | _ => bif ikEq k k' then intBin op k a b .fail nx else .fail
  | .str a, .str b => strBin op a b nx
  | .bool a, .bool b =>
    match P.underlying t, isEq op with
    | some .bool, some true => .done (.bool (a == b)) [] nx
    | some .bool, some false => .done (.bool (!(a == b))) [] nx
    | _, _ => .fail
  | .agg as, .agg bs =>
    bif isAggT P t && plainEq P 40 t && !P.eqGuardType P.depth t && fitsAll P (leaves P 40 t) as && fitsAll P (leaves P 40 t) bs then
      match eqLeaves as bs, isEq op with
      | some r, some true => .done (.bool r) [] nx
      | some r, some false => .done (.bool (!r)) [] nx
      | _, _ => .fail
    else .fail
  | _, _ => .fail

def convS (P : Program) (src dst : TypeId) (x : SV) (nx : Nat) : OpM :=
  match P.underlying src, P.underlying dst, x with
  | some (.int _), some (.int k), .int _ n => .done (.int k (k.wrap n)) [] nx
  | some .string, some .string, .str s => .done (.str s) [] nx
  | _, _, _ => .fail

def zeroS (P : Program) (t : TypeId) : Option SV :=
  match P.info? t with
  | some i => match i.zero with
    | some z => some (ofValue z)
    | none => none
  | none => none

/-- 'build' of a struct: its parts written over the zero value. -/
def fillS (place : Nat → Option (Nat × Nat)) (cells : List SV) : List (Nat × SV) → Option (List SV)
  | [] => some cells
  | (i, v) :: rest =>
    match place i, cellsS v with
    | some (off, size), some vs => bif Nat.beq vs.length size then
        match splice cells off vs with
        | some cells' => fillS place cells' rest
        | none => none
      else none
    | _, _ => none
def placeOf (P : Program) (t : TypeId) (i : Nat) : Option (Nat × Nat) :=
  match P.underlying t with
  | some (.struct fs) => match fs[i]? with
    | some f => some (f.offset, P.cellsOf f.type)
    | none => none
  | some (.array _ e) => some (i * P.cellsOf e, P.cellsOf e)
  | _ => none
def knownT (P : Program) (t : TypeId) : Bool := (P.info? t).isSome
def buildOk (P : Program) (t : TypeId) : Bool :=
  match P.underlying t with
  | some (.struct fs) => fs.toList.all fun f => knownT P f.type
  | some (.array _ e) => knownT P e
  | _ => false
def buildS (P : Program) (t : TypeId) (parts : List (Nat × SV)) (nx : Nat) : OpM :=
  bif buildOk P t then
    match zeroS P t with
    | some (.agg zs) => match fillS (placeOf P t) zs parts with
      | some cs => .done (.agg cs) [] nx
      | none => .fail
    | _ => .fail
  else .fail

/- Names of blocks. -/
mutual
def renS (f : Nat → Nat) : SV → SV
  | .ptr x o => .ptr (f x) o
  | .sl x sz o l => .sl (f x) sz o l
  | .qs x sz l n => .qs (f x) sz l n
  | .qp x sz i o => .qp (f x) sz i o
  | .mp x => .mp (f x)
  | .yl x => .yl (f x)
  | .fn g a b => .fn g (renL f a) (renL f b)
  | .iface t v => .iface t (renS f v)
  | .agg cs => .agg (renL f cs)
  | .tup vs => .tup (renL f vs)
  | v => v
def renL (f : Nat → Nat) : List SV → List SV
  | [] => []
  | v :: vs => renS f v :: renL f vs
end
def renC (f : Nat → Nat) : Chunk → Chunk
  | .cells T vs => .cells T (renL f vs)
  | .seq e es => .seq e es
  | .loopr st vs ps asg bdy => .loopr st (renL f vs) ps asg bdy
  | .mpc ks vs => .mpc (renL f ks) (renL f vs)
mutual
def namesS : SV → List Nat
  | .ptr x _ => [x]
  | .sl x _ _ _ => [x]
  | .qs x _ _ _ => [x]
  | .qp x _ _ _ => [x]
  | .mp x => [x]
  | .yl x => [x]
  | .fn _ a b => namesL a ++ namesL b
  | .iface _ v => namesS v
  | .agg cs => namesL cs
  | .tup vs => namesL vs
  | _ => []
def namesL : List SV → List Nat
  | [] => []
  | v :: vs => namesS v ++ namesL vs
end
def namesC : Chunk → List Nat
  | .cells _ vs => namesL vs
  | .seq _ _ => []
  | .loopr _ vs _ _ _ => namesL vs
  | .mpc ks vs => namesL ks ++ namesL vs

def memN : Nat → List Nat → Bool
  | _, [] => false
  | x, y :: l => Nat.beq x y || memN x l
def idxN : List Nat → Nat → Nat
  | [], _ => 0
  | y :: l, x => bif Nat.beq y x then 0 else idxN l x + 1

/-- The blocks that are reached, in the order in which they are met (the last first). -/
def closeM (k : HpL → OpM) : Nat → List Nat → HpL → OpM
  | 0, _, _ => .fail
  | _ + 1, [], acc => k acc
  | d + 1, x :: todo, acc =>
    bif memN x (acc.map (·.1)) then closeM k d todo acc
    else .get x fun c => closeM k d (namesC c ++ todo) ((x, c) :: acc)

def locHeap (f : Nat → Nat) : HpL → Nat → HpL
  | [], _ => []
  | (_, c) :: l, i => (i, renC f c) :: locHeap f l (i + 1)
def backName (ns : List Nat) (m nx y : Nat) : Nat := bif Nat.blt y m then ns.getD y 0 else nx + (y - m)
/-- One more than the greatest name. -/
def boundN : List Nat → Nat → Nat
  | [], n => n
  | y :: l, n => boundN l (bif Nat.blt n (y + 1) then y + 1 else n)
def namesU : List (Nat × Option Chunk) → List Nat
  | [] => []
  | (y, some c) :: l => y :: (namesC c ++ namesU l)
  | (y, none) :: l => y :: namesU l
def backUps (f : Nat → Nat) : List (Nat × Option Chunk) → List (Nat × Option Chunk)
  | [] => []
  | (y, some c) :: l => (f y, some (renC f c)) :: backUps f l
  | (y, none) :: l => (f y, none) :: backUps f l

/-- What a callee comes to, 'ups': what it has changed of the blocks that it was handed, and its new ones. -/
inductive CTree where
  | ret (v : SV) (ups : List (Nat × Option Chunk))
  | ite (b : Bool) (t e : CTree)
  | fail
abbrev CSumm := List SV → HpL → CTree

def ofCTree (ns : List Nat) (m nx : Nat) : CTree → OpM
  | .ret v ups => .done (renS (backName ns m nx) v) (backUps (backName ns m nx) ups) (nx + (boundN (namesS v ++ namesU ups) m - m))
  | .ite b t e => .ite b (ofCTree ns m nx t) (ofCTree ns m nx e)
  | .fail => .fail

def callS (s : CSumm) (args : List SV) (nx : Nat) : OpM :=
  closeM (fun acc =>
    let l := acc.reverse
    let ns := l.map (·.1)
    ofCTree ns ns.length nx (s (renL (idxN ns) args) (locHeap (idxN ns) l 0))) 1000 (namesL args) []
def callM (κ : Nat → Option CSumm) (f : Nat) (args : List SV) (nx : Nat) : OpM :=
  match κ f with
  | none => .fail
  | some s => callS s args nx

/-- A method of a type itself, by value (or by the pointer that is at hand). -/
def findMeth (name : String) : List Method → Option Method
  | [] => none
  | m :: l => bif m.name == name then some m else findMeth name l
def methodS (P : Program) (t : TypeId) (name : String) : Option Nat :=
  match P.info? t with
  | some i => match findMeth name i.methods.toList with
    | some m => match m.path.toList, m.func with
      | [], some (f, p) => match P.underlying t with
        | some (.pointer _) => bif p then some f else none
        | some _ => bif p then none else some f
        | none => none
      | _, _ => none
    | none => none
  | none => none

def buildSliceS (P : Program) (t : TypeId) (n : Nat) (parts : List (Nat × SV)) (nx : Nat) : OpM :=
  match P.underlying t with
  | some (.slice e) => bif knownT P e && Nat.ble (n * P.cellsOf e) 16777216 && !(Nat.beq (P.cellsOf e) 0) then
      match zeroS P e with
      | some z => match cellsS z with
        | some zs => bif Nat.beq zs.length (P.cellsOf e) then
            match fillS (fun i => some (i * P.cellsOf e, P.cellsOf e)) (repL n zs) parts with
            | some cs => .done (.sl nx (P.cellsOf e) 0 n) [(nx, some (.cells e cs))] (nx + 1)
            | none => .fail
          else .fail
        | none => .fail
      | none => .fail
    else .fail
  | _ => .fail

def makeSliceS (P : Program) (t : TypeId) (l c : SV) (nx : Nat) : OpM :=
  match P.underlying t, l, c with
  | some (.slice e), .int _ a, .int _ b =>
    match P.info? e with
    | some i => match zeroS P e with
      | some z => match cellsS z with
        | some zs => bif Nat.beq zs.length (P.cellsOf e) && !(Nat.beq (P.cellsOf e) 0) then
            .ite (decide (0 ≤ a) && decide (a ≤ b) && decide (b ≤ 16777216) && decide (b * (P.cellsOf e : Int) ≤ 16777216) && decide ((i.bytes : Int) * b ≤ 281474976710656))
              (.done (.sl nx (P.cellsOf e) 0 a.toNat) [(nx, some (.cells e (repL b.toNat zs)))] (nx + 1)) .fail
          else .fail
        | none => .fail
      | none => .fail
    | none => .fail
  | _, _, _ => .fail

def boundS : Option SV → Int → Option Int
  | none, d => some d
  | some (.int _ i), _ => some i
  | _, _ => none
/-- The outcome of a slicing: 'n': the length ahead of it. -/
def slicedS (e : TypeId) (y sz off n : Nat) (l h : Int) (nx : Nat) : OpM :=
  .ite (decide (0 ≤ l) && decide (l ≤ h) && decide (h ≤ (n : Int)))
    (.ite (decide (l < (n : Int)) || decide (l = 0)) (.done (.sl y sz (off + l.toNat * sz) (h.toNat - l.toNat)) [] nx) (.done (.psl e []) [] nx)) .fail
def sliceS (P : Program) (t : TypeId) (x : SV) (lo hi mx : Option SV) (nx : Nat) : OpM :=
  match mx, P.underlying t, x with
  | none, some (.slice e), .sl y sz off n =>
    match boundS lo 0, boundS hi n with
    | some l, some h => bif knownT P e && Nat.beq sz (P.cellsOf e) then slicedS e y sz off n l h nx else .fail
    | _, _ => .fail
  | _, _, _ => .fail

def sliceArrS (P : Program) (t : TypeId) (x : SV) (lo hi mx : Option SV) (nx : Nat) : OpM :=
  match mx, P.underlying t, x with
  | none, some (.array n e), .ptr y off =>
    match boundS lo 0, boundS hi n with
    | some l, some h => .get y fun c => match c with
      | .cells _ vs => bif knownT P e && Nat.ble (off + n * P.cellsOf e) vs.length then slicedS e y (P.cellsOf e) off n l h nx else .fail
      | _ => .fail
    | _, _ => .fail
  | _, _, _ => .fail

/- Indices, lengths. -/
def inB (i : Int) (n : Nat) : Bool := decide (0 ≤ i) && decide (i < (n : Int))
def indexAddrS (P : Program) (t : TypeId) (x ix : SV) (nx : Nat) : OpM :=
  match ix, P.underlying t, x with
  | .int _ i, some (.array n e), .ptr y off => bif knownT P e then .ite (inB i n) (.done (.ptr y (off + i.toNat * P.cellsOf e)) [] nx) .fail else .fail
  | .int _ i, some (.slice e), .sl y _ off n => bif knownT P e then .ite (inB i n) (.done (.ptr y (off + i.toNat * P.cellsOf e)) [] nx) .fail else .fail
  | _, _, _ => .fail
def indexS (P : Program) (t : TypeId) (x ix : SV) (nx : Nat) : OpM :=
  match ix, P.underlying t, x with
  | .int _ i, some (.array n e), .agg cs => bif knownT P e then
      match partS P e cs (i.toNat * P.cellsOf e) with
      | some v => .ite (inB i n) (.done v [] nx) .fail
      | none => .fail
    else .fail
  | .int _ i, some .string, .str s => .ite (inB i s.length) (.done (.int .u8 (s.getD i.toNat 0).toNat) [] nx) .fail
  | _, _, _ => .fail
def lenS (P : Program) (t : TypeId) (x : SV) (nx : Nat) : OpM :=
  match P.underlying t, x with
  | some .string, .str s => .done (.int .i64 s.length) [] nx
  | some (.array n _), _ => .done (.int .i64 n) [] nx
  | some (.slice _), .sl _ _ _ n => .done (.int .i64 n) [] nx
  | some (.slice _), .nils => .done (.int .i64 0) [] nx
  | some (.slice _), .psl _ es => .done (.int .i64 es.length) [] nx
  | _, _ => .fail
def builtinS (P : Program) (b : Builtin) (tys : List TypeId) (args : List SV) (nx : Nat) : OpM :=
  match b, tys, args with
  | .len, t :: _, x :: _ => lenS P t x nx
  | _, _, _ => .fail

def opM0 (P : Program) (κ : Nat → Option CSumm) (o : Oper) (ev : Operand → SV) (nx : Nat) : OpM :=
  match o.op with
  | .move x => .done (ev x) [] nx
  | .assign x => .done (ev x) [] nx
  | .pick c a b => match ev c with
    | .bool t => .ite t (.done (ev a) [] nx) (.done (ev b) [] nx)
    | _ => .fail
  | .alloc t => match zeroS P t with
    | some z => match cellsS z with
      | some cs => .done (.ptr nx 0) [(nx, some (.cells t cs))] (nx + 1)
      | none => .fail
    | none => .fail
  | .box t x => match cellsS (ev x) with
    | some cs => .done (.ptr nx 0) [(nx, some (.cells t cs))] (nx + 1)
    | none => .fail
  | .build t ps => buildS P t (ps.toList.map fun p => (p.1, ev p.2)) nx
  | .load t a => match ev a with
    | .ptr x off => .get x fun c => match c with
      | .cells _ vs => match partS P t vs off with
        | some v => .done v [] nx
        | none => .fail
      | _ => .fail
    | _ => .fail
  | .store t a v => match ev a, cellsS (ev v) with
    | .ptr x off, some vs => bif Nat.beq vs.length (P.cellsOf t) && knownT P t then .get x fun c => match c with
        | .cells T cs => match splice cs off vs with
          | some cs' => .done .junk [(x, some (.cells T cs'))] nx
          | none => .fail
        | _ => .fail
      else .fail
    | _, _ => .fail
  | .nilCheck x => match ev x with
    | .ptr y off => .done (.ptr y off) [] nx
    | .fn (.func f) a b => .done (.fn (.func f) a b) [] nx
    | _ => .fail
  | .binOp op t x y _ => match nilEq P t (ev x) (ev y), isEq op with
    | some b, some true => .done (.bool b) [] nx
    | some b, some false => .done (.bool (!b)) [] nx
    | _, _ => binS P op t (ev x) (ev y) nx
  | .unOp op _ x => match op, ev x with
    | .not, .bool b => .done (.bool (!b)) [] nx
    | .neg, .int k n => .done (.int k (k.wrap (0 - n))) [] nx
    | _, _ => .fail
  | .convert s d x => convS P s d (ev x) nx
  | .makeFunc g a b => match g with
    | .func f => .done (.fn (.func f) (a.toList.map ev) (b.toList.map ev)) [] nx
    | _ => .fail
  | .fieldAddr t x f => match ev x, P.underlying t with
    | .ptr y off, some (.struct fs) => match fs[f]? with
      | some fd => bif Nat.beq (P.cellsOf fd.type) 0 then .fail else .done (.ptr y (off + fd.offset)) [] nx
      | none => .fail
    | _, _ => .fail
  | .field t x f => match ev x, P.underlying t with
    | .agg cs, some (.struct fs) => match fs[f]? with
      | some fd => match partS P fd.type cs fd.offset with
        | some v => .done v [] nx
        | none => .fail
      | none => .fail
    | _, _ => .fail
  | .extract x i => match ev x with
    | .tup vs => match nth? vs i with
      | some v => .done v [] nx
      | none => .fail
    | _ => .fail
  | .call c => match c.callee with
    | .value f => match ev f with
      | .fn (.func g) first caps => callM κ g (first ++ (c.args.toList.map ev ++ caps)) nx
      | _ => .fail
    | .builtin b => builtinS P b c.argTypes.toList (c.args.toList.map ev) nx
    | .invoke r m => match ev r with
      | .iface t v => match methodS P t m with
        | some g => callM κ g (v :: c.args.toList.map ev) nx
        | none => .fail
      | _ => .fail
  | .buildSlice t n ps => buildSliceS P t n (ps.toList.map fun p => (p.1, ev p.2)) nx
  | .makeSlice t l c => makeSliceS P t (ev l) (ev c) nx
  | .slice t x lo hi mx => sliceS P t (ev x) (lo.map ev) (hi.map ev) (mx.map ev) nx
  | .indexAddr t x ix => indexAddrS P t (ev x) (ev ix) nx
  | .index t x ix => indexS P t (ev x) (ev ix) nx
  | _ => .fail

mutual
/-- No value that is told by its place alone. -/
def noOpq : SV → Bool
  | .opq _ => false
  | .fn _ a b => noOpqL a && noOpqL b
  | .iface _ v => noOpq v
  | .agg cs => noOpqL cs
  | .tup vs => noOpqL vs
  | _ => true
def noOpqL : List SV → Bool
  | [] => true
  | v :: vs => noOpq v && noOpqL vs
end
def noOpqC : Chunk → Bool
  | .cells _ vs => noOpqL vs
  | .seq _ _ => true
  | .loopr _ vs _ _ _ => noOpqL vs
  | .mpc ks vs => noOpqL ks && noOpqL vs
/- Further operations: lists that grow, what is known by content, maps that are written out. -/
def frzLeaf (P : Program) (t : TypeId) (k : SV → List Nat → OpM) : SV → OpM
  | .qs y sz l n =>
    match P.underlying t with
    | some (.slice e) => .get y fun c => match c with
      | .seq e' es => bif Nat.beq e e' && Nat.beq sz (P.cellsOf e) then .ite (decide (l = 0) && decide (n = es.length)) (k (.psl e es) [y]) .fail else .fail
      | _ => .fail
    | _ => .fail
  | .emp => match P.underlying t with
    | some (.slice e) => k (.psl e []) []
    | _ => .fail
  | c => k (coerceLeaf P t c) []
def frzL (P : Program) (k : List SV → List Nat → OpM) : List TypeId → List SV → List SV → List Nat → OpM
  | u :: us, c :: cs, acc, ys => frzLeaf P u (fun c' zs => frzL P k us cs (acc ++ [c']) (ys ++ zs)) c
  | [], [], acc, ys => k acc ys
  | _, _, _, _ => .fail
def sizedS (P : Program) (t : TypeId) (v : SV) : Bool :=
  match cellsS v with
  | some cs => Nat.beq cs.length (P.cellsOf t)
  | none => false
/-- The value, its fresh lists known by content from here on. -/
def frzM (P : Program) (t : TypeId) (k : SV → List Nat → OpM) (v : SV) : OpM :=
  let k' := fun v' ys => bif fits P t v' && sizedS P t v' then k v' ys else .fail
  bif isAggT P t then
    match v with
    | .agg cs => frzL P (fun cs' ys => k' (.agg cs') ys) (leaves P 40 t) cs [] []
    | _ => .fail
  else frzLeaf P t k' v
def frzAll (P : Program) (t : TypeId) (k : List SV → List Nat → OpM) : List SV → List SV → List Nat → OpM
  | [], acc, ys => k acc ys
  | v :: vs, acc, ys => frzM P t (fun v' zs => frzAll P t k vs (acc ++ [v']) (ys ++ zs)) v
/-- m values of type t out of a row of cells. -/
def partsS (P : Program) (t : TypeId) (vs : List SV) : Nat → Nat → Option (List SV)
  | _, 0 => some []
  | off, m + 1 => match partS P t vs off, partsS P t vs (off + P.cellsOf t) m with
    | some v, some l => some (v :: l)
    | _, _ => none
def drops : List Nat → List (Nat × Option Chunk)
  | [] => []
  | y :: ys => (y, none) :: drops ys
def byteSV (b : UInt8) : SV := .int .u8 b.toNat
/-- The elements of a slice (or a string) that is read whole. -/
def elemsM (P : Program) (e : TypeId) (k : List SV → List Nat → OpM) : SV → OpM
  | .sl y sz off m => .get y fun c => match c with
    | .cells _ cs => bif Nat.beq sz (P.cellsOf e) then match partsS P e cs off m with
      | some vs => frzAll P e k vs [] []
      | none => .fail
      else .fail
    | _ => .fail
  | .qs y sz l m => .get y fun c => match c with
    | .seq e' es => bif Nat.beq e e' && Nat.beq sz (P.cellsOf e) then
        .ite (decide (l = 0) && decide (m = es.length)) (k es []) (.ite (decide (l + m ≤ es.length)) (k ((es.drop l).take m) []) .fail) else .fail
    | _ => .fail
  | .psl e' es => bif Nat.beq e e' then k es [] else .fail
  | .pnn e' es => bif Nat.beq e e' then k es [] else .fail
  | .nils => k [] []
  | .emp => k [] []
  | .str s => match P.underlying e with
    | some (.int .u8) => bif Nat.beq (P.cellsOf e) 1 then k (s.map byteSV) [] else .fail
    | _ => .fail
  | _ => .fail
def plainLeaf (P : Program) (t : TypeId) : Bool :=
  match P.underlying t with
  | some .bool => true
  | some (.int _) => true
  | some .string => true
  | some (.slice _) => true
  | _ => false
/-- The type is made of bools, integers, strings and slices. -/
def plainE (P : Program) (e : TypeId) : Bool := bif isAggT P e then (leaves P 40 e).all (plainLeaf P) else plainLeaf P e
def apartN : List Nat → List Nat → Bool
  | [], _ => true
  | x :: l, m => !memN x m && apartN l m
/-- 'dead': the name that is used up, 'ys': those known by content from here on. -/
def growS (P : Program) (e : TypeId) (es news : List SV) (dead ys : List Nat) (nx : Nat) : OpM :=
  match P.info? e with
  | some i => match i.zero with
    | some z => bif Nat.beq z.cells.size (P.cellsOf e) && !(Nat.beq (P.cellsOf e) 0) && apartN dead ys then
        .ite (decide (es.length + news.length ≤ 9223372036854775807) && decide ((es.length + news.length) * i.bytes ≤ 140737488355328))
          (.done (.qs nx (P.cellsOf e) 0 (es.length + news.length)) (drops (dead ++ ys) ++ [(nx, some (.seq e (es ++ news)))]) (nx + 1)) .fail
      else .fail
    | none => .fail
  | none => .fail
def listLike (P : Program) (t : TypeId) : Bool :=
  match P.underlying t with
  | some (.slice _) => true
  | some .string => true
  | _ => false
def appendX (P : Program) (t t' : TypeId) (s x : SV) (nx : Nat) : OpM :=
  match P.underlying t with
  | some (.slice e) =>
    bif listLike P t' && plainE P e then
      match s with
      | .nils => elemsM P e (fun news ys => growS P e [] news [] ys nx) x
      | .emp => elemsM P e (fun news ys => growS P e [] news [] ys nx) x
      | .qs y sz l n => .get y fun c => match c with
        | .seq e' es => bif Nat.beq e e' && Nat.beq sz (P.cellsOf e) && Nat.beq l 0 then .ite (decide (n = es.length)) (elemsM P e (fun news ys => growS P e es news [y] ys nx) x) .fail else .fail
        | _ => .fail
      | .sl y sz off n => .get y fun c => match c with
        | .cells T cs => bif Nat.beq sz (P.cellsOf e) && Nat.beq T e && Nat.beq off 0 && Nat.ble (n * sz) cs.length then match partsS P e cs 0 n with
            | some vs => frzAll P e (fun es ys => elemsM P e (fun news ys' => growS P e es news [y] (ys ++ ys') nx) x) vs [] []
            | none => .fail
          else .fail
        | _ => .fail
      | _ => .fail
    else .fail
  | _ => .fail

/-- Slicing a grown list with three places. -/
def slc3X (P : Program) (e : TypeId) (x : SV) (l h k : Int) (nx : Nat) : OpM :=
  match x with
  | .qs y sz i n => bif Nat.beq sz (P.cellsOf e) then .ite (decide (0 ≤ l) && decide (l ≤ h) && decide (h ≤ k) && decide (k ≤ (n : Int))) (.done (.qs y sz (i + l.toNat) (h.toNat - l.toNat)) [] nx) .fail else .fail
  | _ => .fail
/-- Slicing. -/
def slcX (P : Program) (t : TypeId) (x : SV) (lo hi mx : Option SV) (nx : Nat) : OpM :=
  match mx with
  | none =>
    match P.underlying t, x with
    | some .string, .str s => match boundS lo 0, boundS hi s.length with
      | some l, some h => .ite (decide (0 ≤ l) && decide (l ≤ h) && decide (h ≤ (s.length : Int))) (.done (.str ((s.drop l.toNat).take (h.toNat - l.toNat))) [] nx) .fail
      | _, _ => .fail
    | some (.slice e), .psl e' es => match boundS lo 0, boundS hi es.length with
      | some l, some h => bif Nat.beq e e' && knownT P e then .ite (decide (0 ≤ l) && decide (l ≤ h) && decide (h ≤ (es.length : Int))) (.done (.psl e ((es.drop l.toNat).take (h.toNat - l.toNat))) [] nx) .fail else .fail
      | _, _ => .fail
    | some (.slice e), .qs y sz k n => match boundS lo 0, boundS hi n with
      | some l, some h => bif Nat.beq sz (P.cellsOf e) && knownT P e then .ite (decide (0 ≤ l) && decide (l ≤ h) && decide (h ≤ (n : Int))) (.done (.qs y sz (k + l.toNat) (h.toNat - l.toNat)) [] nx) .fail else .fail
      | _, _ => .fail
    | some (.slice e), .nils => match boundS lo 0, boundS hi 0 with
      | some l, some h => bif knownT P e then .ite (decide (l = 0) && decide (h = 0)) (.done .nils [] nx) .fail else .fail
      | _, _ => .fail
    | some (.array _ _), .ptr _ _ => sliceArrS P t x lo hi mx nx
    | _, _ => .fail
  | some m =>
    match P.underlying t, boundS lo 0, boundS hi 1, boundS (some m) 1 with
    | some (.slice e), some l, some h, some k => bif knownT P e && (match hi with
        | some _ => true
        | none => false) then
        .ite (decide (l = 0) && decide (h = 0) && decide (k = 0)) (match x with
          | .nils => .done .nils [] nx
          | .emp => .done .emp [] nx
          | .psl _ _ => .done .emp [] nx
          | .pnn _ _ => .done .emp [] nx
          | .qs _ _ _ _ => .done .emp [] nx
          | .sl _ _ _ _ => .done .emp [] nx
          | _ => .fail) (slc3X P e x l h k nx)
      else .fail
    | _, _, _, _ => .fail
def sliceX (P : Program) (t : TypeId) (lo hi mx : Bool) (as : List SV) (nx : Nat) : OpM :=
  match lo, hi, mx, as with
  | false, false, false, [x] => slcX P t x none none none nx
  | true, false, false, [x, l] => slcX P t x (some l) none none nx
  | false, true, false, [x, h] => slcX P t x none (some h) none nx
  | true, true, false, [x, l, h] => slcX P t x (some l) (some h) none nx
  | false, true, true, [x, h, m] => slcX P t x none (some h) (some m) nx
  | true, true, true, [x, l, h, m] => slcX P t x (some l) (some h) (some m) nx
  | _, _, _, _ => .fail

/-- Elements of slices, by their addresses. -/
def indexAddrX (P : Program) (t : TypeId) (x ix : SV) (nx : Nat) : OpM :=
  match ix, P.underlying t, x with
  | .int _ i, some (.slice e), .psl e' es => bif Nat.beq e e' && knownT P e then .ite (inB i es.length) (.done (.pel (expand P e (es.getD i.toNat .junk)) 0) [] nx) .fail else .fail
  | .int _ i, some (.slice e), .qs y sz k n => bif Nat.beq sz (P.cellsOf e) && knownT P e then .ite (inB i n) (.done (.qp y sz (k + i.toNat) 0) [] nx) .fail else .fail
  | .int _ i, some (.array n e), .pel v off => bif knownT P e then .ite (inB i n) (.done (.pel v (off + i.toNat * P.cellsOf e)) [] nx) .fail else .fail
  | .int _ i, some (.array n e), .qp y sz k off => bif knownT P e then .ite (inB i n) (.done (.qp y sz k (off + i.toNat * P.cellsOf e)) [] nx) .fail else .fail
  | _, _, _ => .fail
def loadX (P : Program) (t : TypeId) (a : SV) (nx : Nat) : OpM :=
  match a with
  | .pel v off => match cellsS v with
    | some cs => match partS P t cs off with
      | some u => bif noOpq u then .done u [] nx else .fail
      | none => .fail
    | none => .fail
  | .qp y sz k off => .get y fun c => match c with
    | .seq e es => bif Nat.beq sz (P.cellsOf e) then
        match cellsS (expand P e (es.getD k .junk)) with
        | some cs => match partS P t cs off with
          | some u => bif noOpq u then .ite (decide (k < es.length)) (.done u [] nx) .fail else .fail
          | none => .fail
        | none => .fail
      else .fail
    | _ => .fail
  | _ => .fail
def storeX (P : Program) (t : TypeId) (a v : SV) (nx : Nat) : OpM :=
  match a with
  | .qp y sz k off => bif knownT P t then .get y fun c => match c with
    | .seq e es => bif Nat.beq sz (P.cellsOf e) then
        match cellsS (expand P e (es.getD k .junk)) with
        | some cs => frzM P t (fun v' ys => match cellsS v' with
          | some vs => bif Nat.beq vs.length (P.cellsOf t) && !(memN y ys) then match splice cs off vs with
            | some cs' => match (bif isAggT P e then some (.agg cs') else bif Nat.beq sz 1 then nth? cs' 0 else none) with
              | some w => bif fits P e w && Nat.beq cs'.length sz then .ite (decide (k < es.length)) (.done .junk (drops ys ++ [(y, some (.seq e (es.set k w)))]) nx) .fail else .fail
              | none => .fail
            | none => .fail
            else .fail
          | none => .fail) v
        | none => .fail
      else .fail
    | _ => .fail
    else .fail
  | _ => .fail
def fieldAddrX (P : Program) (t : TypeId) (x : SV) (f : Nat) (nx : Nat) : OpM :=
  match P.underlying t with
  | some (.struct fs) => match fs[f]? with
    | some fd => bif Nat.beq (P.cellsOf fd.type) 0 then .fail else
      match x with
      | .pel v off => .done (.pel v (off + fd.offset)) [] nx
      | .qp y sz k off => .done (.qp y sz k (off + fd.offset)) [] nx
      | _ => .fail
    | none => .fail
  | _ => .fail

/- Maps that are written out: keys of one scalar kind. -/
def keyEq : SV → SV → Option Bool
  | .int k a, .int k' b => bif ikEq k k' then some (a == b) else none
  | .str a, .str b => some (a == b)
  | .bool a, .bool b => some (a == b)
  | _, _ => none
/-- The place of a key. -/
def findM (key : SV) (hit : Nat → OpM) (miss : OpM) : List SV → Nat → OpM
  | [], _ => miss
  | x :: xs, i => match keyEq key x with
    | some b => .ite b (hit i) (findM key hit miss xs (i + 1))
    | none => .fail
def keyT (P : Program) (kt : TypeId) (k : SV) : Bool :=
  match P.underlying kt, k with
  | some (.int a), .int b _ => ikEq a b
  | some .string, .str _ => true
  | some .bool, .bool _ => true
  | _, _ => false
def setN {α : Type} : List α → Nat → α → List α
  | [], _, _ => []
  | _ :: l, 0, v => v :: l
  | x :: l, n + 1, v => x :: setN l n v
def mapSetX (P : Program) (t : TypeId) (m k v : SV) (nx : Nat) : OpM :=
  match P.underlying t, m with
  | some (.map kt _), .mp y => bif keyT P kt k then .get y fun c => match c with
      | .mpc ks vs => bif Nat.beq ks.length vs.length then findM k (fun i => .done .junk [(y, some (.mpc ks (setN vs i v)))] nx) (.done .junk [(y, some (.mpc (ks ++ [k]) (vs ++ [v])))] nx) ks 0 else .fail
      | _ => .fail
    else .fail
  | _, _ => .fail
def lookupX (P : Program) (t : TypeId) (m k : SV) (ok : Bool) (nx : Nat) : OpM :=
  match P.underlying t, m with
  | some (.map kt et), .mp y => bif keyT P kt k then
      match zeroS P et with
      | some z => .get y fun c => match c with
        | .mpc ks vs => findM k (fun i => match nth? vs i with
            | some v => .done (bif ok then .tup [v, .bool true] else v) [] nx
            | none => .fail) (.done (bif ok then .tup [z, .bool false] else z) [] nx) ks 0
        | _ => .fail
      | none => .fail
    else .fail
  | some (.map kt et), .nilm => bif keyT P kt k then
      match zeroS P et with
      | some z => .done (bif ok then .tup [z, .bool false] else z) [] nx
      | none => .fail
    else .fail
  | _, _ => .fail

/- Strings and bytes. -/
def byteOf : SV → UInt8
  | .int _ n => UInt8.ofNat n.toNat
  | _ => 0
/-- Pointers, and those of no type. -/
def convU (P : Program) (s d : TypeId) (x : SV) (nx : Nat) : OpM :=
  match P.underlying s, P.underlying d, x with
  | some (.pointer t), some .unsafePointer, .ptr y o => bif Nat.beq (P.cellsOf t) 0 then .fail else .get y fun c => match c with
    | .cells _ cs => bif Nat.blt o cs.length then .done (.ptr y o) [] nx else .fail
    | _ => .fail
  | some .unsafePointer, some (.pointer u), .ptr y o => .get y fun c => match c with
    | .cells T cs => bif knownT P u && liesAt P P.depth T (cs.length / P.cellsOf T) o u 1 then .done (.ptr y o) [] nx else .fail
    | _ => .fail
  | _, _, _ => .fail
def unsafeStrX (P : Program) (pt : TypeId) (p n : SV) (nx : Nat) : OpM :=
  match P.underlying pt, p, n with
  | some (.pointer e), .qp y sz i off, .int .i64 m => match P.underlying e with
    | some (.int .u8) => bif Nat.beq (P.cellsOf e) 1 && Nat.beq sz 1 && Nat.beq i 0 && Nat.beq off 0 then .get y fun c => match c with
        | .seq e' es => bif Nat.beq e' e then .ite (decide (m = es.length) && decide (0 < es.length) && decide (es.length ≤ 9223372036854775807)) (.done (.str (es.map byteOf)) [(y, none)] nx) .fail else .fail
        | _ => .fail
      else .fail
    | _ => .fail
  | _, _, _ => .fail
def sliceDataX (x : SV) (nx : Nat) : OpM :=
  match x with
  | .qs y sz l n => .ite (decide (0 < n)) (.done (.qp y sz l 0) [] nx) .fail
  | _ => .fail
/-- copy, onto a list that has grown: elements of one cell. -/
def copyX (P : Program) (t t' : TypeId) (d s : SV) (nx : Nat) : OpM :=
  match P.underlying t, d with
  | some (.slice e), .qs y sz l m => bif listLike P t' && plainE P e && Nat.beq (P.cellsOf e) 1 && Nat.beq sz 1 then
      elemsM P e (fun xs ys => match ys with
        | [] => .get y fun c => match c with
          | .seq e' es => bif Nat.beq e' e then .ite (decide (xs.length ≤ m) && decide (l ≤ es.length)) (.done (.int .i64 xs.length) [(y, some (.seq e (es.take l ++ xs ++ es.drop (l + xs.length))))] nx) .fail else .fail
          | _ => .fail
        | _ => .fail) s
    else .fail
  | _, _ => .fail
/-- So many bytes that nobody knows. -/
def rawX (P : Program) (ts : List TypeId) (args : List SV) (nx : Nat) : OpM :=
  match ts, args with
  | [t], [.int .i64 n] => match P.underlying t with
    | some (.slice e) => bif Nat.beq (P.cellsOf e) 1 then .ite (decide (0 ≤ n) && decide (n ≤ 16777216)) (.done (.qs nx 1 0 n.toNat) [(nx, some (.seq e []))] (nx + 1)) .fail else .fail
    | _ => .fail
  | _, _ => .fail
/-- Functions without a body, of which the model has entries. -/
def externX (P : Program) (g : Nat) (args : List SV) (nx : Nat) : OpM :=
  match P.funcs[g]? with
  | some fn => bif fn.body.isNone && fn.origin == "" then
      bif fn.name == "internal/bytealg.IndexByteString" then match args with
        | [.str l, .int .u8 c] => .done (.int .i64 (Lib.indexByte l c.toNat.toUInt8)) [] nx
        | _ => .fail
      else bif fn.name == "internal/abi.NoEscape" then match args with
        | [x] => .done x [] nx
        | _ => .fail
      else bif fn.name == "internal/bytealg.MakeNoZero" then rawX P fn.resultTypes.toList args nx
      else .fail
    else .fail
  | none => .fail
def convX (P : Program) (s d : TypeId) (x : SV) (nx : Nat) : OpM :=
  match P.underlying s, P.underlying d with
  | some .string, some (.slice e) => match P.underlying e, x with
    | some (.int .u8), .str l => bif Nat.beq (P.cellsOf e) 1 then .done (.qs nx 1 0 l.length) [(nx, some (.seq e (l.map byteSV)))] (nx + 1) else .fail
    | _, _ => .fail
  | some (.slice e), some .string => match P.underlying e with
    | some (.int .u8) => bif Nat.beq (P.cellsOf e) 1 && plainE P e then match x with
        | .str _ => .fail
        | x => elemsM P e (fun es ys => match ys with
          | [] => .done (.str (es.map byteOf)) [] nx
          | _ => .fail) x
      else .fail
    | _ => .fail
  | _, _ => convU P s d x nx

def lenX (P : Program) (t : TypeId) (x : SV) (nx : Nat) : OpM :=
  match P.underlying t, x with
  | some (.slice _), .qs _ _ _ n => .done (.int .i64 n) [] nx
  | some (.slice _), .emp => .done (.int .i64 0) [] nx
  | some (.slice _), .pnn _ es => .done (.int .i64 es.length) [] nx
  | some (.map _ _), .mp y => .get y fun c => match c with
    | .mpc ks _ => .done (.int .i64 ks.length) [] nx
    | _ => .fail
  | _, _ => .fail
def minMaxX (mx : Bool) (x y : SV) (nx : Nat) : OpM :=
  match x, y with
  | .int k a, .int k' b => bif ikEq k k' then bif mx then .done (.int k (bif decide (a < b) then b else a)) [] nx else .done (.int k (bif decide (b < a) then b else a)) [] nx else .fail
  | _, _ => .fail
def builtinX (P : Program) (b : Builtin) (tys : List TypeId) (as : List SV) (nx : Nat) : OpM :=
  match b, tys, as with
  | .append, t :: t' :: _, [s, x] => appendX P t t' s x nx
  | .len, t :: _, [x] => lenX P t x nx
  | .min, _, [x, y] => minMaxX false x y nx
  | .max, _, [x, y] => minMaxX true x y nx
  | .copy, t :: t' :: _, [d, s] => copyX P t t' d s nx
  | .unsafeSliceData, _, [x] => sliceDataX x nx
  | .unsafeString, t :: _, [x, n] => unsafeStrX P t x n nx
  | _, _, _ => .fail

def assertNo (P : Program) (t : TypeId) (ok : Bool) (nx : Nat) : OpM :=
  bif ok then match zeroS P t with
    | some z => .done (.tup [z, .bool false]) [] nx
    | none => .fail
  else .fail
/-- What does a value of an interface hold? -/
def assertX (P : Program) (t : TypeId) (ok : Bool) (x : SV) (nx : Nat) : OpM :=
  match P.underlying t, x with
  | some (.interface _), _ => .fail
  | none, _ => .fail
  | some _, .iface t' v => bif Nat.beq t' t then .done (bif ok then .tup [v, .bool true] else v) [] nx else assertNo P t ok nx
  | some _, .nili => assertNo P t ok nx
  | _, _ => .fail

def opX (P : Program) (o : Op) (as : List SV) (nx : Nat) : OpM :=
  match o, as with
  | .makeInterface t _, [x] => match P.underlying t with
    | some (.interface _) => .fail
    | some _ => .done (.iface t x) [] nx
    | none => .fail
  | .typeAssert _ _ t ok, [x] => assertX P t ok x nx
  | .load t _, [a] => loadX P t a nx
  | .store t _ _, [a, v] => storeX P t a v nx
  | .nilCheck _, [.pel v off] => .done (.pel v off) [] nx
  | .nilCheck _, [.qp y sz k off] => .done (.qp y sz k off) [] nx
  | .fieldAddr t _ f, [x] => fieldAddrX P t x f nx
  | .indexAddr t _ _, [x, i] => indexAddrX P t x i nx
  | .slice t _ lo hi mx, as => sliceX P t lo.isSome hi.isSome mx.isSome as nx
  | .makeMap t _, [] => match P.underlying t with
    | some (.map _ _) => .done (.mp nx) [(nx, some (.mpc [] []))] (nx + 1)
    | _ => .fail
  | .insert t _ _ _, [m, k, v] => mapSetX P t m k v nx
  | .mapUpdate t _ _ _, [m, k, v] => mapSetX P t m k v nx
  | .lookup t _ _ ok, [m, k] => lookupX P t m k ok nx
  | .convert s d _, [x] => convX P s d x nx
  | .binOp op t _ _ _, [x, y] => match P.underlying t, x, y, isEq op with
    | some (.slice _), .pnn _ _, .nils, some b => .done (.bool (!b)) [] nx
    | some (.slice _), .nils, .pnn _ _, some b => .done (.bool (!b)) [] nx
    | some (.slice _), .sl _ _ _ (_ + 1), .nils, some b => .done (.bool (!b)) [] nx
    | some (.slice _), .qs _ _ _ n, .nils, some b => .ite (decide (0 < n)) (.done (.bool (!b)) [] nx) .fail
    | some (.pointer e), .ptr a i, .ptr b j, some r => bif knownT P e && Nat.beq a b && Nat.beq i j then .done (.bool r) [] nx else .fail
    | _, _, _, _ => .fail
  | .unOp .xor _ _, [.int k n] => .done (.int k (k.wrap (BitVec.ofInt k.bits (if k.signed then -1 else k.max) ^^^ BitVec.ofInt k.bits n).toNat)) [] nx
  | .call c, as => match c.callee with
    | .builtin b => builtinX P b c.argTypes.toList as nx
    | .value _ => match as with
      | .fn (.func g) [] [] :: args => externX P g args nx
      | _ => .fail
    | _ => .fail
  | _, _ => .fail

/-- What is changed has been read, or is new. -/
def keysOk (rs : List Nat) (n n' : Nat) : List (Nat × Option Chunk) → Bool
  | [] => true
  | (x, _) :: l => (memN x rs || (Nat.ble n x && Nat.blt x n')) && keysOk rs n n' l
def chkM (n : Nat) : OpM → List Nat → OpM
  | .done r ups nx, rs => bif Nat.ble n nx && keysOk rs n nx ups then .done r ups nx else .fail
  | .get x k, rs => .get x fun c => chkM n (k c) (x :: rs)
  | .ite b t e, rs => .ite b (chkM n t rs) (chkM n e rs)
  | .fail, _ => .fail
def opM (P : Program) (κ : Nat → Option CSumm) (o : Oper) (ev : Operand → SV) (nx : Nat) : OpM :=
  match opM0 P κ o ev nx with
  | .fail => chkM nx (opX P o.op (o.op.operands.toList.map ev) nx) []
  | m => m

/- States. -/
structure St where
  tm : Tr SV
  size : Nat
  hp : Tr Chunk
  nx : Nat
  m : Nat
  dirty : List Nat
  sp : Bool
  rd : Option Nat

def St.tmp (s : St) (t : Nat) : SV := match s.tm.get t with
  | some v => v
  | none => .junk
def St.ev (s : St) : Operand → SV
  | .tmp t => s.tmp t
  | .const v => ofValue v
  | .func f => .fn (.func f) [] []
  | .global _ => .junk
def St.put (s : St) : Option Nat → SV → St
  | none, _ => s
  | some d, v => { s with tm := s.tm.set 14 d (some v) }
def upsTr : List (Nat × Option Chunk) → Tr Chunk → Tr Chunk
  | [], h => h
  | (x, c) :: l, h => upsTr l (h.set 20 x c)
def addDirty (m : Nat) : List (Nat × Option Chunk) → List Nat → List Nat
  | [], d => d
  | (x, _) :: l, d => addDirty m l (bif Nat.blt x m && !memN x d then x :: d else d)
def St.upd (s : St) (ups : List (Nat × Option Chunk)) (nx : Nat) : St :=
  { s with hp := upsTr ups s.hp, nx := nx, dirty := addDirty s.m ups s.dirty }

/-- What one operation of a region has touched. -/
structure Foot where
  i : Nat
  reads : List Nat
  writes : List Nat

def overlap : List Nat → List Nat → Bool
  | [], _ => false
  | x :: l, m => memN x m || overlap l m
def tmpsOf : List Operand → List Nat
  | [] => []
  | .tmp t :: l => t :: tmpsOf l
  | _ :: l => tmpsOf l
/-- May the two stand in either order? -/
def apartF (a b : Foot) : Bool := !overlap a.writes b.writes && !overlap a.writes b.reads && !overlap a.reads b.writes

def bef1 (bs : List Nat) (o : Oper) : Nat := o.after.toList.foldl (fun s e => bif Region.binds .any e then s ||| 2 ^ e.on ||| bs.getD e.on 0 else s) 0
/-- Which operations stand surely ahead of each (a bit an operation). -/
def befAll : List Oper → List Nat → List Nat
  | [], bs => bs
  | o :: os, bs => befAll os (bs ++ [bef1 bs o])

/-- The order of a region that draws is of no matter: what is not ordered does not meet. 'bs': Region.before. -/
def footsOk (bs : List Nat) : List Foot → Bool
  | [] => true
  | f :: l => l.all (fun g => (bs.getD f.i 0).testBit g.i || apartF f g) && footsOk bs l

/-- May the two stand in either order, by their temporaries? (The operations beside, for the guards' own.) -/
def apartT (all : List Oper) (x y : Oper) : Bool :=
  let looks (o : Oper) : List Nat := (match o.guard with
    | some (g, _) => match nth? all g with
      | some og => match og.dst with
        | some d => [d]
        | none => []
      | none => []
    | none => []) ++ tmpsOf o.op.operands.toList
  (match x.dst with
   | some d => !memN d (looks y) && (match y.dst with
     | some e => !Nat.beq d e
     | none => true)
   | none => true) &&
  (match y.dst with
   | some d => !memN d (looks x)
   | none => true)
/-- The one at index j against those ahead of it. -/
def staticRow (all : List Oper) (b : Nat) (o : Oper) : List Oper → Nat → Bool
  | [], _ => true
  | p :: l, i => (b.testBit i || apartT all p o) && staticRow all b o l (i + 1)
/-- 'pre': the operations ahead (the first first), of which there are j. -/
def staticOk (all : List Oper) (bs : List Nat) : List Oper → List Oper → Nat → Bool
  | _, [], _ => true
  | pre, o :: os, j =>
    staticRow all (bs.getD j 0) o pre 0 && o.after.toList.all (fun e => !Region.binds .any e || Nat.blt e.on j) &&
      (match o.guard with
       | some (g, _) => (bs.getD j 0).testBit g
       | none => true) && staticOk all bs (pre ++ [o]) os (j + 1)

section
variable (P : Program) (κ : Nat → Option CSumm)

def dstOk (s : St) : Option Nat → Bool
  | none => true
  | some d => Nat.blt d s.size

/- Without branching: where nothing is written, both sides of a guard are reckoned. -/
abbrev Chain := List (Nat × Bool)
def chainOf : List (Nat × Chain) → Nat → Option Chain
  | [], _ => none
  | (t, c) :: l, x => bif Nat.beq t x then some c else chainOf l x
def eqChain : Chain → Chain → Bool
  | [], [] => true
  | (a, b) :: l, (c, d) :: m => Nat.beq a c && (b == d) && eqChain l m
  | _, _ => false
def endsIn (a : Chain) : Chain → Bool
  | [] => eqChain a []
  | p :: l => eqChain a (p :: l) || endsIn a l
def underOk (env : List (Nat × Chain)) (L : Chain) : List Operand → Bool
  | [] => true
  | .tmp t :: l => (match chainOf env t with
    | some c => endsIn c L
    | none => true) && underOk env L l
  | _ :: l => underOk env L l
def opUnder (env : List (Nat × Chain)) (L : Chain) (o : Op) : Bool :=
  match o with
  | .pick (.tmp c) a b => underOk env L [.tmp c] && underOk env ((c, true) :: L) [a] && underOk env ((c, false) :: L) [b]
  | o => underOk env L o.operands.toList
def mergeSV (t : Bool) : SV → SV → Option SV
  | .bool x, .bool y => some (.bool (bif t then x else y))
  | .int k x, .int k' y => bif ikEq k k' then some (.int k (bif t then x else y)) else none
  | .str x, .str y => some (.str (bif t then x else y))
  | _, _ => none
def mspec (h : Tr Chunk) (nx : Nat) : OpM → Option SV
  | .done r ups nx' => match ups with
    | [] => bif Nat.beq nx' nx then some r else none
    | _ => none
  | .get x f => match h.get x with
    | some c => mspec h nx (f c)
    | none => none
  | _ => none
def specOp (P : Program) (κ : Nat → Option CSumm) (o : Oper) (s : St) : Option SV :=
  match o.op with
  | .pick c a b => match s.ev c with
    | .bool t => mergeSV t (s.ev a) (s.ev b)
    | _ => none
  | _ => mspec s.hp s.nx (opM P κ o s.ev s.nx)
def specDst (env : List (Nat × Chain)) (s : St) : Option Nat → Bool
  | none => true
  | some d => Nat.blt d s.size && (match chainOf env d with
    | some _ => false
    | none => true)
/-- The condition under which an operation is carried out. -/
def specChain (all : List Oper) (env : List (Nat × Chain)) (s : St) : Option (Nat × Bool) → Option Chain
  | none => some []
  | some (j, w) => match nth? all j with
    | some oj => match oj.dst with
      | some d => match chainOf env d, s.tmp d with
        | some c, .bool _ => bif Nat.blt d s.size then some ((d, w) :: c) else none
        | _, _ => none
      | none => none
    | none => none
def envPut (env : List (Nat × Chain)) (L : Chain) : Option Nat → List (Nat × Chain)
  | none => env
  | some d => (d, L) :: env
def specC (all : List Oper) : List Oper → List (Nat × Chain) → St → Option (List (Nat × Chain) × St)
  | [], env, s => some (env, s)
  | o :: os, env, s =>
    match specChain all env s o.guard with
    | some L => bif specDst env s o.dst && opUnder env L o.op then
        match specOp P κ o s with
        | some r => specC all os (envPut env L o.dst) (s.put o.dst r)
        | none => none
      else none
    | none => none
def forget : List (Nat × Chain) → St → St
  | [], s => s
  | (_, []) :: l, s => forget l s
  | (t, _ :: _) :: l, s => forget l (s.put (some t) .junk)
def hasGuard : List Oper → Bool
  | [] => false
  | o :: l => (match o.guard with
    | some _ => true
    | none => false) || hasGuard l
def specRun (ops : List Oper) (draw : Bool) (s : St) : Option St :=
  bif s.sp && hasGuard ops && (!draw || staticOk ops (befAll ops []) [] ops 0) then
    match specC P κ ops ops [] s with
    | some (env, s') => some (forget env s')
    | none => none
  else none

end

/- Carrying out, in the style of continuations: each open test stands at the head. -/
section
variable {R : Type} (fl : R)
def interpR (h : Tr Chunk) (k : SV → List (Nat × Option Chunk) → Nat → List Nat → R) : OpM → List Nat → R
  | .done r ups nx, rs => k r ups nx rs
  | .get x f, rs => match h.get x with
    | some c => interpR h k (f c) (rs ++ [x])
    | none => fl
  | .ite b t e, rs => bif b then interpR h k t rs else interpR h k e rs
  | .fail, _ => fl
def guardR (all : List Oper) (s : St) (k : St → Bool → R) : Option (Nat × Bool) → R
  | none => k s true
  | some (j, want) =>
    match nth? all j with
    | some oj => match oj.dst with
      | some d => match s.tmp d with
        | .bool b =>
          bif Nat.blt d s.size then
            bif b then k (s.put (some d) (.bool true)) want else k (s.put (some d) (.bool false)) (!want)
          else fl
        | .tup [] => bif Nat.blt d s.size then k s false else fl
        | _ => fl
      | none => fl
    | none => fl
def argsTr : List SV → Nat → Tr SV → Tr SV
  | [], _, t => t
  | v :: vs, i, t => argsTr vs (i + 1) (t.set 14 i (some v))
def lowB (m : Nat) : List Nat → Bool
  | [] => true
  | x :: l => Nat.blt x m && lowB m l
def listOfTr (s : St) : Nat → Nat → List SV
  | 0, _ => []
  | n + 1, i => s.tmp i :: listOfTr s n (i + 1)
def setPs : List Nat → List SV → Tr SV → Tr SV
  | p :: ps, v :: vs, t => setPs ps vs (t.set 14 p (some v))
  | _, _, t => t
def endSt : Ex → LS
  | .normal => .ready
  | e => .done e
def isNormal : Ex → Bool
  | .normal => true
  | _ => false

variable (P : Program) (κ : Nat → Option CSumm) (ι : Nat → Bool)
/-- The value of a result variable. -/
def resultS (s : St) : ResultVar → Option SV
  | .tmp t => bif Nat.blt t s.size then some (s.tmp t) else none
  | .cell p t => match s.tmp p with
    | .ptr x off => match s.hp.get x with
      | some (.cells _ vs) => partS P t vs off
      | _ => none
    | _ => none
def resultsS (s : St) : List ResultVar → Option (List SV)
  | [] => some []
  | r :: rs => match resultS P s r, resultsS s rs with
    | some v, some vs => some (v :: vs)
    | _, _ => none
def oneOrTup : List SV → SV
  | [v] => v
  | vs => .tup vs

abbrev Rcr (R : Type) := Code → St → (Ex → St → R) → R

/-- A call, carried out. -/
def callIn (rec : Rcr R) (f : Nat) (args : List SV) (s : St) (k : SV → St → R) : R :=
  match P.funcs[f]? with
  | some fn => match fn.body with
    | some c =>
      bif Nat.ble args.length fn.ntmps && Nat.blt fn.ntmps 16000 && !(fn.name == "runtime.NumGoroutine") then
        rec c { s with tm := argsTr args 0 .lf, size := fn.ntmps, rd := none } fun e s' =>
          match e with
          | .exit _ => fl
          | _ => match resultsS P s' fn.results.toList with
            | some vs => k (oneOrTup vs) { s' with tm := s.tm, size := s.size, rd := s.rd }
            | none => fl
      else fl
    | none => fl
  | none => fl
/-- A round of a range over a function. -/
def roundIn (rec : Rcr R) (x : Nat) (args : List SV) (s : St) (k : Bool → St → R) : R :=
  match s.hp.get x with
  | some (.loopr .ready vs ps asg bdy) =>
    bif Nat.beq ps.size args.length && lowB vs.length ps.toList && Nat.blt vs.length 16000 then
      rec asg { s with tm := setPs ps.toList args (argsTr vs 0 .lf), size := vs.length, rd := some x } fun e s1 =>
        match e with
        | .normal => match s1.hp.get x with
          | some (.loopr .ready vs1 ps1 asg1 bdy1) =>
            rec bdy (s1.upd [(x, some (.loopr .busy vs1 ps1 asg1 bdy1))] s1.nx) fun e s2 =>
              match s2.hp.get x with
              | some (.loopr .busy vs2 ps2 asg2 bdy2) => k (isNormal e) { s2.upd [(x, some (.loopr (endSt e) vs2 ps2 asg2 bdy2))] s2.nx with tm := s.tm, size := s.size, rd := s.rd }
              | _ => fl
          | _ => fl
        | _ => fl
    else fl
  | _ => fl

inductive CallKind where
  | plain
  | fn (f : Nat) (args : List SV)
  | yl (x : Nat) (args : List SV)
def callKind (o : Oper) (s : St) : CallKind :=
  match o.op with
  | .call c => match c.callee with
    | .value f => match s.ev f with
      | .yl x => .yl x (c.args.toList.map s.ev)
      | .fn (.func g) first caps => bif ι g then .fn g (first ++ (c.args.toList.map s.ev ++ caps)) else .plain
      | _ => .plain
    | .invoke r m => match s.ev r with
      | .iface t v => match methodS P t m with
        | some g => bif ι g then .fn g (v :: c.args.toList.map s.ev) else .plain
        | none => .plain
      | _ => .plain
    | _ => .plain
  | _ => .plain
def stepR (rec : Rcr R) (o : Oper) (s : St) (k : St → R) : R :=
  match callKind P ι o s with
  | .plain => interpR fl s.hp (fun r ups nx _ => bif Nat.blt nx 1000000 then k ((s.upd ups nx).put o.dst r) else fl) (opM P κ o s.ev s.nx) []
  | .fn f args => callIn fl P rec f args s fun r s' => k (s'.put o.dst r)
  | .yl x args => roundIn fl rec x args s fun b s' => k (s'.put o.dst (.bool b))
/-- The operations one after the other. -/
def opsQ (rec : Rcr R) (all : List Oper) (k : St → R) : List Oper → St → R
  | [], s => k s
  | o :: os, s =>
    bif dstOk s o.dst then
      guardR fl all s (fun s go =>
        bif go then stepR fl P κ ι rec o s (fun s => opsQ rec all k os s)
        else opsQ rec all k os (s.put o.dst (.tup []))) o.guard
    else fl
/-- The operations of a region that draws, from the i-th on; 'acc': the feet so far (the last first). -/
def opsR (all : List Oper) (k : St → List Foot → R) : List Oper → Nat → St → List Foot → R
  | [], _, s, acc => k s acc
  | o :: os, i, s, acc =>
    bif dstOk s o.dst then
      guardR fl all s (fun s go =>
        bif go then interpR fl s.hp (fun r ups nx rs => bif Nat.blt nx 1000000 then opsR all k os (i + 1) ((s.upd ups nx).put o.dst r) (⟨i, rs, ups.map (·.1)⟩ :: acc) else fl) (opM P κ o s.ev s.nx) []
        else opsR all k os (i + 1) (s.put o.dst (.tup [])) acc) o.guard
    else fl
def regionB (rec : Rcr R) (ops : Array Oper) (draw : Bool) (k : St → R) (s : St) : R :=
  bif draw then
    bif staticOk ops.toList (befAll ops.toList []) [] ops.toList 0 then
      opsR fl P κ ops.toList (fun s acc => bif footsOk (befAll ops.toList []) acc then k s else fl) ops.toList 0 s []
    else fl
  else opsQ fl P κ ι rec ops.toList k ops.toList s
def regionC (rec : Rcr R) (ops : Array Oper) (draw : Bool) (k : St → R) (s : St) : R :=
  match specRun P κ ops.toList draw s with
  | some s' => k s'
  | none => regionB fl P κ ι rec ops draw k s

def rdOk (s : St) : Bool :=
  match s.rd with
  | none => true
  | some y => match s.hp.get y with
    | some (.loopr _ _ _ _ _) => true
    | _ => false
def execC (rec : Rcr R) : Rcr R
  | .skip, s, k => k .normal s
  | .region _ ops draw, s, k => regionC fl P κ ι rec ops draw (k .normal) s
  | .seq a b, s, k => execC rec a s (fun e s => match e with
    | .normal => execC rec b s k
    | e => k e s)
  | .cond c t e, s, k =>
    match s.ev c with
    | .bool b => bif b then execC rec t s k else execC rec e s k
    | _ => fl
  | .block id c, s, k => execC rec c s (fun e s => match e with
    | .exit j => bif Nat.beq j id then k .normal s else k (.exit j) s
    | e => k e s)
  | .loop c, s, k => execC rec c s (fun e s => match e with
    | .normal => rec (.loop c) s k
    | e => k e s)
  | .scope c, s, k => execC rec c s k
  | .exit id, s, k => k (.exit id) s
  | .label _, s, k => k .normal s
  | .ret, s, k => k .ret s
  | .rangeFunc g ps asg bdy, s, k =>
    match s.ev g with
    | .fn (.func f) first caps =>
      bif rdOk s && Nat.blt (s.nx + 1) 1000000 then
        callIn fl P rec f (first ++ ([.yl s.nx] ++ caps)) (s.upd [(s.nx, some (.loopr .ready (listOfTr s s.size 0) ps asg bdy))] (s.nx + 1)) fun _ s1 =>
          match s1.hp.get s.nx with
          | some (.loopr .ready _ _ _ _) => k .normal (s1.upd [(s.nx, none)] s1.nx)
          | some (.loopr (.done e) _ _ _ _) => k e (s1.upd [(s.nx, none)] s1.nx)
          | _ => fl
      else fl
    | _ => fl
  | _, _, _ => fl
def exec : Nat → Rcr R
  | 0, _, _, _ => fl
  | n + 1, c, s, k => execC fl P κ ι (exec n) c s k
end

/- Loops by what is known of them: 'ins': the temporaries that a round is told, 'outs': those that are told behind the loop, 'keep': those that no round touches. -/
structure LEnt where
  ins : List Nat
  outs : List Nat
  keep : List Nat
  size : Nat
  code : Code
  s : CSumm
abbrev LTab := String → Option LEnt
def exOf : Int → Ex
  | .ofNat 0 => .normal
  | .ofNat 1 => .ret
  | .ofNat (n + 2) => .exit n
  | .negSucc _ => .ret
def codeEx : Ex → Int
  | .normal => 0
  | .ret => 1
  | .exit n => ((n + 2 : Nat) : Int)
def keepT : List Nat → St → Tr SV → Tr SV
  | [], _, t => t
  | x :: l, s, t => keepT l s (t.set 14 x (some (s.tmp x)))
def fillC (T : LTab) : Code → Code
  | .seq a b => .seq (fillC T a) (fillC T b)
  | .cond c a b => .cond c (fillC T a) (fillC T b)
  | .block id c => .block id (fillC T c)
  | .loop c => .loop (fillC T c)
  | .scope c => .scope (fillC T c)
  | .refuse w => match T w with
    | some e => .loop e.code
    | none => .refuse w
  | c => c
def firstReg : Code → Option Nat
  | .region id _ _ => some id
  | .seq a b => match firstReg a with
    | some r => some r
    | none => firstReg b
  | .cond _ a b => match firstReg a with
    | some r => some r
    | none => firstReg b
  | .block _ c => firstReg c
  | .loop c => firstReg c
  | .scope c => firstReg c
  | _ => none
def markOf : List (Nat × String) → Nat → Option String
  | [], _ => none
  | (r, w) :: l, x => bif Nat.beq r x then some w else markOf l x
/-- The loops that begin with these regions, marked. -/
def markC (ks : List (Nat × String)) : Code → Code
  | .seq a b => .seq (markC ks a) (markC ks b)
  | .cond c a b => .cond c (markC ks a) (markC ks b)
  | .block id c => .block id (markC ks c)
  | .scope c => .scope (markC ks c)
  | .loop c => match firstReg c with
    | some r => match markOf ks r with
      | some w => .refuse w
      | none => .loop (markC ks c)
    | none => .loop (markC ks c)
  | c => c
/-- The body of the loop that begins with this region. -/
def loopAt (r : Nat) : Code → Option Code
  | .seq a b => match loopAt r a with
    | some c => some c
    | none => loopAt r b
  | .cond _ a b => match loopAt r a with
    | some c => some c
    | none => loopAt r b
  | .block _ c => loopAt r c
  | .scope c => loopAt r c
  | .loop c => match firstReg c with
    | some x => bif Nat.beq x r then some c else loopAt r c
    | none => loopAt r c
  | _ => none
section
variable {R : Type} (fl : R) (P : Program) (κ : Nat → Option CSumm) (ι : Nat → Bool) (T : LTab)
def afterL (e : LEnt) (outs : List SV) (ups : List (Nat × Option Chunk)) (nx : Nat) (s : St) : St := { s.upd ups nx with tm := setPs e.outs outs (keepT e.keep s .lf) }
/-- A loop, by what is known of it. -/
def loopK (e : LEnt) (s : St) (k : Ex → St → R) : R :=
  match s.rd with
  | some _ => fl
  | none =>
    bif Nat.beq s.size e.size && lowB s.size e.ins && lowB s.size e.outs && lowB s.size e.keep then
      interpR fl s.hp (fun r ups nx _ => bif Nat.blt nx 1000000 then
        (match r with
         | .tup (.int _ c :: outs) => bif Nat.beq outs.length e.outs.length then k (exOf c) (afterL e outs ups nx s) else fl
         | _ => fl) else fl) (callS e.s (e.ins.map s.tmp) s.nx) []
    else fl
def execCL (recL rec : Rcr R) : Rcr R
  | .skip, s, k => k .normal s
  | .region _ ops draw, s, k => regionC fl P κ ι rec ops draw (k .normal) s
  | .seq a b, s, k => execCL recL rec a s (fun e s => match e with
    | .normal => execCL recL rec b s k
    | e => k e s)
  | .cond c t e, s, k =>
    match s.ev c with
    | .bool b => bif b then execCL recL rec t s k else execCL recL rec e s k
    | _ => fl
  | .block id c, s, k => execCL recL rec c s (fun e s => match e with
    | .exit j => bif Nat.beq j id then k .normal s else k (.exit j) s
    | e => k e s)
  | .loop c, s, k => execCL recL rec c s (fun e s => match e with
    | .normal => recL (.loop c) s k
    | e => k e s)
  | .scope c, s, k => execCL recL rec c s k
  | .exit id, s, k => k (.exit id) s
  | .label _, s, k => k .normal s
  | .ret, s, k => k .ret s
  | .rangeFunc g ps asg bdy, s, k => execC fl P κ ι rec (.rangeFunc g ps asg bdy) s k
  | .refuse w, s, k => match T w with
    | some e => loopK fl e s k
    | none => fl
  | _, _, _ => fl
def execL : Nat → Rcr R
  | 0, _, _, _ => fl
  | n + 1, c, s, k => execCL fl P κ ι T (execL n) (exec fl P κ ι n) c s k
end

/- A function's body. -/
def heapTr : HpL → Tr Chunk → Tr Chunk
  | [], t => t
  | (x, c) :: l, t => heapTr l (t.set 20 x (some c))
def canonB : HpL → Nat → Bool
  | [], _ => true
  | (x, _) :: l, i => Nat.beq x i && canonB l (i + 1)
def closedB (m : Nat) : HpL → Bool
  | [] => true
  | (_, c) :: l => lowB m (namesC c) && closedB m l
def initSt (sp : Bool) (f : Func) (args : List SV) (H : HpL) : St :=
  { tm := argsTr args 0 .lf, size := f.ntmps, hp := heapTr H .lf, nx := H.length, m := H.length, dirty := [], sp := sp, rd := none }

/-- The names of new blocks that are reached from those (all of them from the m-th on). -/
def reachNew (h : Tr Chunk) (m : Nat) : Nat → List Nat → List Nat → Option (List Nat)
  | 0, _, _ => none
  | _ + 1, [], acc => some acc
  | d + 1, x :: todo, acc =>
    bif Nat.blt x m || memN x acc then reachNew h m d todo acc
    else match h.get x with
      | some c => reachNew h m d (namesC c ++ todo) (acc ++ [x])
      | none => none
def dirtyNames (h : Tr Chunk) : List Nat → List Nat
  | [] => []
  | x :: l => match h.get x with
    | some c => namesC c ++ dirtyNames h l
    | none => dirtyNames h l
def outName (ns : List Nat) (m : Nat) (x : Nat) : Nat := bif Nat.blt x m then x else m + idxN ns x
def outOld (h : Tr Chunk) (f : Nat → Nat) : List Nat → List (Nat × Option Chunk)
  | [] => []
  | x :: l => (x, match h.get x with
    | some c => some (renC f c)
    | none => none) :: outOld h f l
def outNew (h : Tr Chunk) (f : Nat → Nat) : List Nat → List (Nat × Option Chunk)
  | [] => []
  | x :: l => match h.get x with
    | some c => (f x, some (renC f c)) :: outNew h f l
    | none => outNew h f l

def finishC (P : Program) (f : Func) (s : St) : CTree :=
  match resultsS P s f.results.toList with
  | some vs =>
    match reachNew s.hp s.m 2000 (namesS (oneOrTup vs) ++ dirtyNames s.hp s.dirty) [] with
    | some ns => .ret (renS (outName ns s.m) (oneOrTup vs)) (outOld s.hp (outName ns s.m) s.dirty ++ outNew s.hp (outName ns s.m) ns)
    | none => .fail
  | none => .fail

def finishV (v : SV) (s : St) : CTree :=
  match reachNew s.hp s.m 2000 (namesS v ++ dirtyNames s.hp s.dirty) [] with
  | some ns => .ret (renS (outName ns s.m) v) (outOld s.hp (outName ns s.m) s.dirty ++ outNew s.hp (outName ns s.m) ns)
  | none => .fail
def noOpqU : List (Nat × Option Chunk) → Bool
  | [] => true
  | (_, some c) :: l => noOpqC c && noOpqU l
  | (_, none) :: l => noOpqU l
def noOpqH : HpL → Bool
  | [] => true
  | (_, c) :: l => noOpqC c && noOpqH l
def keepOk (s : St) : List Nat → Bool
  | [] => true
  | t :: l => (match s.tmp t with
    | .opq n => Nat.beq n t
    | _ => false) && keepOk s l
def finishL (e : LEnt) (ex : Ex) (s : St) : CTree :=
  bif keepOk s e.keep && noOpqL (e.outs.map s.tmp) then
    match finishV (.tup (.int .i64 (codeEx ex) :: e.outs.map s.tmp)) s with
    | .ret v ups => bif noOpqU ups then .ret v ups else .fail
    | _ => .fail
  else .fail
def keepI : List Nat → Tr SV → Tr SV
  | [], t => t
  | x :: l, t => keepI l (t.set 14 x (some (.opq x)))
/-- Where a round begins. -/
def loopSt (sp : Bool) (e : LEnt) (args : List SV) (H : HpL) : St :=
  { tm := setPs e.ins args (keepI e.keep .lf), size := e.size, hp := heapTr H .lf, nx := H.length, m := H.length, dirty := [], sp := sp, rd := none }
/-- A round, and what comes behind it: 'c': the round's code, its inner loops marked; 'T' knows them. -/
def loopOnce (P : Program) (κ : Nat → Option CSumm) (ι : Nat → Bool) (T : LTab) (sp : Bool) (fuel : Nat) (e e' : LEnt) (c : Code) (args : List SV) (H : HpL) : CTree :=
  bif canonB H 0 && closedB H.length H && Nat.beq args.length e.ins.length && Nat.blt e.size 16000 && Nat.blt H.length 1000000 && lowB e.size e.ins && lowB e.size e.keep && lowB e.size e.outs && noOpqL args && noOpqH H && lowB H.length (namesL args) then
    execL .fail P κ ι T fuel c (loopSt sp e args H) (fun ex s => match ex with
      | .normal => loopK .fail e' s (finishL e)
      | ex => finishL e ex s)
  else .fail

/-- A body with loops that are known. -/
def bodyCL (P : Program) (κ : Nat → Option CSumm) (ι : Nat → Bool) (T : LTab) (sp : Bool) (fuel : Nat) (f : Func) (c : Code) (args : List SV) (H : HpL) : CTree :=
  bif canonB H 0 && closedB H.length H && Nat.ble args.length f.ntmps && Nat.blt f.ntmps 16000 && Nat.blt H.length 1000000 then
    execL .fail P κ ι T fuel c (initSt sp f args H) (fun e s => match e with
      | .exit _ => .fail
      | _ => finishC P f s)
  else .fail

/-- What a function's body comes to: 'fuel': for rounds of loops and for calls that are carried out ('ι'). -/
def bodyC (P : Program) (κ : Nat → Option CSumm) (ι : Nat → Bool) (sp : Bool) (fuel : Nat) (f : Func) (args : List SV) (H : HpL) : CTree :=
  match f.body with
  | some c =>
    bif canonB H 0 && closedB H.length H && Nat.ble args.length f.ntmps && Nat.blt f.ntmps 16000 && Nat.blt H.length 1000000 then
      exec .fail P κ ι fuel c (initSt sp f args H) (fun e s => match e with
        | .exit _ => .fail
        | _ => finishC P f s)
    else .fail
  | none => .fail

/-- What is open is told: a tree is run. -/
def crun : CTree → Option (SV × List (Nat × Option Chunk))
  | .ret v ups => some (v, ups)
  | .ite b t e => if b then crun t else crun e
  | .fail => none

end Go.Am
