/- The abstract machine: an evaluator of the model's code over symbolic values. Definitions alone. -/
import GoSem.Dispatch
import Derived.WalkKit
import Derived.Lib.Bytealg
set_option linter.unusedVariables false
set_option linter.unusedSimpArgs false
namespace Go.Am
inductive SV where
 | junk
 | opq (n : Nat)
 | bool (b : Bool)
 | int (k : IntKind) (n : Int)
 | str (s : List UInt8)
 | ptr (x off : Nat)
 | nilp
 | pel (v : SV) (off : Nat)
 | sl (x sz off len : Nat)
 | nils
 | psl (e : TypeId) (es : List SV)
 | pnn (e : TypeId) (es : List SV)
 | emp
 | qs (x sz l n : Nat)
 | qp (x sz i off : Nat)
 | mp (x : Nat)
 | nilm
 | yl (x : Nat)
 | fn (f : Fn) (first caps : List SV)
 | nilf
 | iface (t : TypeId) (v : SV)
 | nili
 | agg (cs : List SV)
 | tup (vs : List SV)
 | gp (g off : Nat)
 | qo (x sz n : Nat)
 | qop (x sz i off : Nat)
 deriving Inhabited
inductive Ex where
 | normal | exit (id : Nat) | ret
 deriving Inhabited
inductive LS where
 | ready | busy | done (e : Ex)
 deriving Inhabited
inductive XC where
 | mpo (kt et : TypeId) (bs : List Nat) (cl : Nat) (ks vs : List SV)
 | mpu (kt et : TypeId) (m : List (SV × SV))
 | sqm (e : TypeId) (es : List SV)
 deriving Inhabited
inductive Chunk where
 | cells (T : TypeId) (vs : List SV)
 | seq (e : TypeId) (es : List SV)
 | loopr (st : LS) (vs : List SV) (ps : Array Nat) (asg bdy : Code)
 | mpc (ks vs : List SV)
 | mpb (kd : IntKind) (kvs : List (Int × Bool))
 | mpn (bs : List Nat) (cl : Nat) (ks vs : List SV)
 | mit (z since : Nat) (seen : List Nat) (last : Nat)
 | sqo (e : TypeId) (es : List SV)
 | sqp (e : TypeId) (es : List SV)
 | ext (c : XC)
 deriving Inhabited
inductive Tr (α : Type) where
 | lf
 | nd (v : Option α) (l r : Tr α)
theorem nb_t {a b : Nat} (h : a = b) : Nat.beq a b = true := by subst h; exact Nat.beq_refl a
theorem nb_f {a b : Nat} (h : ¬ a = b) : Nat.beq a b = false := by
 cases e : Nat.beq a b with
 | false => rfl
 | true => exact absurd (Nat.eq_of_beq_eq_true e) h
namespace Tr
variable {α : Type}
def get : Tr α → Nat → Option α
 | .lf, _ => none
 | .nd v l r, n => bif Nat.beq n 0 then v else bif Nat.beq (n % 2) 1 then l.get (n / 2) else r.get (n / 2 - 1)
def set : Nat → Tr α → Nat → Option α → Tr α
 | 0, t, _, _ => t
 | d + 1, .lf, n, u => bif Nat.beq n 0 then .nd u .lf .lf else bif Nat.beq (n % 2) 1 then .nd none (set d .lf (n / 2) u) .lf else .nd none .lf (set d .lf (n / 2 - 1) u)
 | d + 1, .nd v l r, n, u => bif Nat.beq n 0 then .nd u l r else bif Nat.beq (n % 2) 1 then .nd v (set d l (n / 2) u) r else .nd v l (set d r (n / 2 - 1) u)
theorem get_lf (n : Nat) : (Tr.lf : Tr α).get n = none := rfl
theorem get_set (d : Nat) : ∀ (t : Tr α) (n : Nat) (u : Option α) (m : Nat), n < 2 ^ d - 1 → (set d t n u).get m = if m = n then u else t.get m := by
 induction d with
 | zero => intro t n u m h; simp at h
 | succ d ih =>
  intro t n u m h
  have hp : 2 ^ (d + 1) = 2 * 2 ^ d := by rw [Nat.pow_succ]; omega
  have h1 : 1 ≤ 2 ^ d := Nat.one_le_two_pow
  cases t with
  | lf =>
   simp only [set]
   by_cases hn : n = 0
   · subst hn
     by_cases hm : m = 0
     · subst hm; simp [get]
     · have := nb_f hm
       simp [get, this, hm]
   · have hb : Nat.beq n 0 = false := nb_f hn
     simp only [hb, cond_false]
     by_cases ho : n % 2 = 1
     · have hb2 : Nat.beq (n % 2) 1 = true := nb_t ho
       simp only [hb2, cond_true]
       by_cases hm : m = 0
       · subst hm; simp [get]; intro e; exact absurd e.symm hn
       · have hbm : Nat.beq m 0 = false := nb_f hm
         by_cases hom : m % 2 = 1
         · have hb3 : Nat.beq (m % 2) 1 = true := nb_t hom
           simp only [get, hbm, hb3, cond_false, cond_true]
           rw [ih _ _ _ _ (by omega)]
           have : (m / 2 = n / 2) ↔ m = n := by omega
           simp [this, get]
         · have hb3 : Nat.beq (m % 2) 1 = false := nb_f hom
           have : m ≠ n := by intro e; subst e; exact hom ho
           simp [get, hbm, hb3, this]
     · have hb2 : Nat.beq (n % 2) 1 = false := nb_f ho
       simp only [hb2, cond_false]
       by_cases hm : m = 0
       · subst hm; simp [get]; intro e; exact absurd e.symm hn
       · have hbm : Nat.beq m 0 = false := nb_f hm
         by_cases hom : m % 2 = 1
         · have hb3 : Nat.beq (m % 2) 1 = true := nb_t hom
           have : m ≠ n := by intro e; subst e; exact ho hom
           simp [get, hbm, hb3, this]
         · have hb3 : Nat.beq (m % 2) 1 = false := nb_f hom
           simp only [get, hbm, hb3, cond_false]
           rw [ih _ _ _ _ (by omega)]
           have : (m / 2 - 1 = n / 2 - 1) ↔ m = n := by omega
           simp [this, get]
  | nd v l r =>
   simp only [set]
   by_cases hn : n = 0
   · subst hn
     by_cases hm : m = 0
     · subst hm; simp [get]
     · have := nb_f hm
       simp [get, this, hm]
   · have hb : Nat.beq n 0 = false := nb_f hn
     simp only [hb, cond_false]
     by_cases ho : n % 2 = 1
     · have hb2 : Nat.beq (n % 2) 1 = true := nb_t ho
       simp only [hb2, cond_true]
       by_cases hm : m = 0
       · subst hm; simp [get]; intro e; exact absurd e.symm hn
       · have hbm : Nat.beq m 0 = false := nb_f hm
         by_cases hom : m % 2 = 1
         · have hb3 : Nat.beq (m % 2) 1 = true := nb_t hom
           simp only [get, hbm, hb3, cond_false, cond_true]
           rw [ih _ _ _ _ (by omega)]
           have : (m / 2 = n / 2) ↔ m = n := by omega
           simp [this]
         · have hb3 : Nat.beq (m % 2) 1 = false := nb_f hom
           have : m ≠ n := by intro e; subst e; exact hom ho
           simp [get, hbm, hb3, this]
     · have hb2 : Nat.beq (n % 2) 1 = false := nb_f ho
       simp only [hb2, cond_false]
       by_cases hm : m = 0
       · subst hm; simp [get]; intro e; exact absurd e.symm hn
       · have hbm : Nat.beq m 0 = false := nb_f hm
         by_cases hom : m % 2 = 1
         · have hb3 : Nat.beq (m % 2) 1 = true := nb_t hom
           have : m ≠ n := by intro e; subst e; exact ho hom
           simp [get, hbm, hb3, this]
         · have hb3 : Nat.beq (m % 2) 1 = false := nb_f hom
           simp only [get, hbm, hb3, cond_false]
           rw [ih _ _ _ _ (by omega)]
           have : (m / 2 - 1 = n / 2 - 1) ↔ m = n := by omega
           simp [this]
end Tr
/- Types. -/
def isAggT (P : Program) (t : TypeId) : Bool :=
 match P.underlying t with
 | some (.struct _) | some (.array _ _) => true
 | _ => false
def ikEq : IntKind → IntKind → Bool
 | .i8, .i8 | .i16, .i16 | .i32, .i32 | .i64, .i64 | .u8, .u8 | .u16, .u16 | .u32, .u32 | .u64, .u64 => true
 | _, _ => false
def repL {α : Type} : Nat → List α → List α
 | 0, _ => []
 | n + 1, l => l ++ repL n l
def leaves (P : Program) : Nat → TypeId → List TypeId
 | 0, _ => []
 | d + 1, t =>
  match P.underlying t with
  | some (.struct fs) => fs.toList.flatMap fun f => leaves P d f.type
  | some (.array n e) => repL n (leaves P d e)
  | _ => [t]
def asB : SV → Bool
 | .bool b => b
 | _ => false
def asI : SV → Int
 | .int _ n => n
 | _ => 0
def asS : SV → List UInt8
 | .str s => s
 | _ => []
def asL : SV → List SV
 | .psl _ l => l
 | _ => []
def cellAt : SV → Nat → SV
 | .agg cs, j => cs.getD j .junk
 | _, _ => .junk
def expandLeaf (P : Program) (t : TypeId) (c : SV) : SV :=
 match P.underlying t with
 | some .bool => .bool (asB c)
 | some (.int k) => .int k (asI c)
 | some .string => .str (asS c)
 | some (.slice e) => .psl e (asL c)
 | _ => c
def expandFrom (P : Program) (v : SV) : List TypeId → Nat → List SV
 | [], _ => []
 | u :: us, j => expandLeaf P u (cellAt v j) :: expandFrom P v us (j + 1)
def expand (P : Program) (t : TypeId) (v : SV) : SV :=
 bif isAggT P t then .agg (expandFrom P v (leaves P 40 t) 0) else expandLeaf P t v
def coerceLeaf (P : Program) (t : TypeId) (c : SV) : SV :=
 match P.underlying t, c with
 | some (.slice e), .nils => .psl e []
 | _, c => c
def coerceFrom (P : Program) : List TypeId → List SV → List SV
 | u :: us, c :: cs => coerceLeaf P u c :: coerceFrom P us cs
 | _, _ => []
def coerce (P : Program) (t : TypeId) (v : SV) : SV :=
 bif isAggT P t then
  match v with
  | .agg cs => .agg (coerceFrom P (leaves P 40 t) cs)
  | v => v
 else coerceLeaf P t v
def fitsLeaf (P : Program) (t : TypeId) (c : SV) : Bool :=
 match P.underlying t, c with
 | some .bool, .bool _ => true
 | some .bool, _ => false
 | some (.int k), .int k' _ => ikEq k k'
 | some (.int _), _ => false
 | some .string, .str _ => true
 | some .string, _ => false
 | some (.slice e), .psl e' _ => Nat.beq e e'
 | some (.slice _), _ => false
 | some (.interface _), .nili => true
 | _, _ => false
def fitsAll (P : Program) : List TypeId → List SV → Bool
 | [], [] => true
 | u :: us, c :: cs => fitsLeaf P u c && fitsAll P us cs
 | _, _ => false
def fits (P : Program) (t : TypeId) (v : SV) : Bool :=
 bif isAggT P t then
  match v with
  | .agg cs => fitsAll P (leaves P 40 t) cs
  | _ => false
 else fitsLeaf P t v
def oneS : SV → Bool
 | .junk | .opq _ | .tup _ | .agg _ => false
 | _ => true
def allOne : List SV → Bool
 | [] => true
 | v :: vs => oneS v && allOne vs
def cellsS (v : SV) : Option (List SV) :=
 match v with
 | .junk => none
 | .opq _ => none
 | .tup _ => none
 | .agg cs => bif allOne cs then some cs else none
 | v => some [v]
def ofScalar : Value → SV
 | .bool b => .bool b
 | .int k n => .int k n
 | .string s => .str s.data.toList
 | .pointer none => .nilp
 | .slice none 0 0 => .nils
 | .map none => .nilm
 | .nilFunc => .nilf
 | .nilIface => .nili
 | _ => .junk
def ofValue : Value → SV
 | .agg cs => .agg (cs.toList.map ofScalar)
 | .iface t v => .iface t (ofScalar v)
 | v => ofScalar v
inductive OpM where
 | done (r : SV) (ups : List (Nat × Option Chunk)) (nx : Nat)
 | get (x : Nat) (k : Chunk → OpM)
 | ite (b : Bool) (t e : OpM)
 | fail
abbrev HpL := List (Nat × Chunk)
def HpL.get : HpL → Nat → Option Chunk
 | [], _ => none
 | (x, c) :: h, y => bif Nat.beq x y then some c else HpL.get h y
inductive STree where
 | ret (v : SV) (h : HpL)
 | ite (b : Bool) (t e : STree)
 | fail
def takeN {α : Type} : List α → Nat → Nat → Option (List α)
 | _, 0, 0 => some []
 | [], _, _ => none
 | _ :: l, o + 1, n => takeN l o n
 | x :: l, 0, n + 1 => match takeN l 0 n with
  | some r => some (x :: r)
  | none => none
def splice {α : Type} : List α → Nat → List α → Option (List α)
 | l, 0, [] => some l
 | [], _, _ => none
 | x :: l, o + 1, vs => match splice l o vs with
  | some r => some (x :: r)
  | none => none
 | _ :: l, 0, v :: vs => match splice l 0 vs with
  | some r => some (v :: r)
  | none => none
def nth? {α : Type} : List α → Nat → Option α
 | [], _ => none
 | x :: _, 0 => some x
 | _ :: l, n + 1 => nth? l n
def partS (P : Program) (t : TypeId) (vs : List SV) (off : Nat) : Option SV :=
 match P.underlying t with
 | none => none
 | some (.struct _) => match takeN vs off (P.cellsOf t) with
  | some cs => some (.agg cs)
  | none => none
 | some (.array _ _) => match takeN vs off (P.cellsOf t) with
  | some cs => some (.agg cs)
  | none => none
 | some _ => nth? vs off
/- Integers, bools, strings. -/
def intBin (op : BinOp) (k : IntKind) (a b : Int) : OpM → Nat → OpM := fun _ nx =>
 match op with
 | .add => .done (.int k (k.wrap (a + b))) [] nx
 | .sub => .done (.int k (k.wrap (a - b))) [] nx
 | .mul => .done (.int k (k.wrap (a * b))) [] nx
 | .quo => .ite (b == 0) .fail (.done (.int k (k.wrap (a.tdiv b))) [] nx)
 | .rem => .ite (b == 0) .fail (.done (.int k (a.tmod b)) [] nx)
 | .and => .done (.int k (k.wrap (BitVec.ofInt k.bits a &&& BitVec.ofInt k.bits b).toNat)) [] nx
 | .or => .done (.int k (k.wrap (BitVec.ofInt k.bits a ||| BitVec.ofInt k.bits b).toNat)) [] nx
 | .xor => .done (.int k (k.wrap (BitVec.ofInt k.bits a ^^^ BitVec.ofInt k.bits b).toNat)) [] nx
 | .andNot => .done (.int k (k.wrap (BitVec.ofInt k.bits a &&& ~~~ BitVec.ofInt k.bits b).toNat)) [] nx
 | .eql => .done (.bool (a == b)) [] nx
 | .neq => .done (.bool (a != b)) [] nx
 | .lss => .done (.bool (decide (a < b))) [] nx
 | .leq => .done (.bool (decide (a ≤ b))) [] nx
 | .gtr => .done (.bool (decide (a > b))) [] nx
 | .geq => .done (.bool (decide (a ≥ b))) [] nx
 | _ => .fail
def shiftS (op : BinOp) (k : IntKind) (a b : Int) (nx : Nat) : OpM :=
 match op with
 | .shl => .ite (decide (b < 0)) .fail (.done (.int k (k.wrap (a * 2 ^ (min b.toNat k.bits)))) [] nx)
 | .shr => .ite (decide (b < 0)) .fail (.done (.int k (a.fdiv (2 ^ (min b.toNat k.bits)))) [] nx)
 | _ => .fail
def strBin (op : BinOp) (a b : List UInt8) (nx : Nat) : OpM :=
 match op with
 | .add => .ite (decide (a.length + b.length ≤ 9223372036854775807)) (.done (.str (a ++ b)) [] nx) .fail
 | .eql => .done (.bool (a == b)) [] nx
 | .neq => .done (.bool (!(a == b))) [] nx
 | .lss => .done (.bool (Op.bytesLess a b)) [] nx
 | .leq => .done (.bool (Op.bytesLess a b || a == b)) [] nx
 | .gtr => .done (.bool (!(Op.bytesLess a b || a == b))) [] nx
 | .geq => .done (.bool (!(Op.bytesLess a b))) [] nx
 | _ => .fail
def eqLeaf : SV → SV → Option Bool
 | .bool a, .bool b => some (a == b)
 | .int _ a, .int _ b => some (a == b)
 | .str a, .str b => some (a == b)
 | _, _ => none
def eqLeaves : List SV → List SV → Option Bool
 | [], [] => some true
 | [a], [b] => eqLeaf a b
 | a :: as, b :: bs => match eqLeaf a b, eqLeaves as bs with
  | some x, some y => some (x && y)
  | _, _ => none
 | _, _ => none
def fieldsEq (P : Program) (rec : TypeId → Bool) : List Field → Nat → Nat → Bool
 | [], o, n => Nat.beq o n
 | f :: fs, o, n => f.name != "_" && Nat.beq f.offset o && rec f.type && fieldsEq P rec fs (o + P.cellsOf f.type) n
def plainEq (P : Program) : Nat → TypeId → Bool
 | 0, _ => false
 | d + 1, t =>
  match P.underlying t with
  | some .bool => Nat.beq (P.cellsOf t) 1
  | some (.int _) => Nat.beq (P.cellsOf t) 1
  | some .string => Nat.beq (P.cellsOf t) 1
  | some (.struct fs) => !P.stoodInHeld t && fieldsEq P (plainEq P d) fs.toList 0 (P.cellsOf t)
  | some (.array n e) => plainEq P d e && Nat.beq (n * P.cellsOf e) (P.cellsOf t)
  | _ => false
def nilEq (P : Program) (t : TypeId) (x y : SV) : Option Bool :=
 match P.underlying t, x, y with
 | some (.pointer _), .nilp, .nilp => some true
 | some (.pointer _), .ptr _ _, .nilp => some false
 | some (.pointer _), .nilp, .ptr _ _ => some false
 | some (.slice _), .nils, .nils => some true
 | some (.slice _), .psl _ (_ :: _), .nils => some false
 | some (.slice _), .nils, .psl _ (_ :: _) => some false
 | some (.func _ _ _), .nilf, .nilf => some true
 | some (.func _ _ _), .fn _ _ _, .nilf => some false
 | some (.func _ _ _), .nilf, .fn _ _ _ => some false
 | some (.map _ _), .nilm, .nilm => some true
 | some (.map _ _), .mp _, .nilm => some false
 | some (.interface _), .iface _ _, .nili => some false
 | some (.interface _), .nili, .iface _ _ => some false
 | _, _, _ => none
def isEq : BinOp → Option Bool
 | .eql => some true
 | .neq => some false
 | _ => none
def binS (P : Program) (op : BinOp) (t : TypeId) (x y : SV) (nx : Nat) : OpM :=
 match x, y with
 | .int k a, .int k' b =>
  match op with
  | .shl | .shr => shiftS op k a b nx
  | _ => bif ikEq k k' then intBin op k a b .fail nx else .fail
 | .str a, .str b => strBin op a b nx
 | .bool a, .bool b =>
  match P.underlying t, isEq op with
  | some .bool, some true => .done (.bool (a == b)) [] nx
  | some .bool, some false => .done (.bool (!(a == b))) [] nx
  | _, _ => .fail
 | .agg as, .agg bs =>
  bif isAggT P t && plainEq P 40 t && !P.eqGuardType P.depth t && fitsAll P (leaves P 40 t) as && fitsAll P (leaves P 40 t) bs then
   match eqLeaves as bs, isEq op with
   | some r, some true => .done (.bool r) [] nx
   | some r, some false => .done (.bool (!r)) [] nx
   | _, _ => .fail
  else .fail
 | _, _ => .fail
def convS (P : Program) (src dst : TypeId) (x : SV) (nx : Nat) : OpM :=
 match P.underlying src, P.underlying dst, x with
 | some (.int _), some (.int k), .int _ n => .done (.int k (k.wrap n)) [] nx
 | some .string, some .string, .str s => .done (.str s) [] nx
 | _, _, _ => .fail
def zeroS (P : Program) (t : TypeId) : Option SV :=
 match P.info? t with
 | some i => match i.zero with
  | some z => some (ofValue z)
  | none => none
 | none => none
def fillS (place : Nat → Option (Nat × Nat)) (cells : List SV) : List (Nat × SV) → Option (List SV)
 | [] => some cells
 | (i, v) :: rest =>
  match place i, cellsS v with
  | some (off, size), some vs => bif Nat.beq vs.length size then
    match splice cells off vs with
    | some cells' => fillS place cells' rest
    | none => none
   else none
  | _, _ => none
def placeOf (P : Program) (t : TypeId) (i : Nat) : Option (Nat × Nat) :=
 match P.underlying t with
 | some (.struct fs) => match fs[i]? with
  | some f => some (f.offset, P.cellsOf f.type)
  | none => none
 | some (.array _ e) => some (i * P.cellsOf e, P.cellsOf e)
 | _ => none
def knownT (P : Program) (t : TypeId) : Bool := (P.info? t).isSome
def buildOk (P : Program) (t : TypeId) : Bool :=
 match P.underlying t with
 | some (.struct fs) => fs.toList.all fun f => knownT P f.type
 | some (.array _ e) => knownT P e
 | _ => false
def buildS (P : Program) (t : TypeId) (parts : List (Nat × SV)) (nx : Nat) : OpM :=
 bif buildOk P t then
  match zeroS P t with
  | some (.agg zs) => match fillS (placeOf P t) zs parts with
   | some cs => .done (.agg cs) [] nx
   | none => .fail
  | _ => .fail
 else .fail
/- Names of blocks. -/
mutual
def renS (f : Nat → Nat) : SV → SV
 | .ptr x o => .ptr (f x) o
 | .sl x sz o l => .sl (f x) sz o l
 | .qs x sz l n => .qs (f x) sz l n
 | .qp x sz i o => .qp (f x) sz i o
 | .qo x sz n => .qo (f x) sz n
 | .qop x sz i o => .qop (f x) sz i o
 | .mp x => .mp (f x)
 | .yl x => .yl (f x)
 | .fn g a b => .fn g (renL f a) (renL f b)
 | .iface t v => .iface t (renS f v)
 | .agg cs => .agg (renL f cs)
 | .tup vs => .tup (renL f vs)
 | v => v
def renL (f : Nat → Nat) : List SV → List SV
 | [] => []
 | v :: vs => renS f v :: renL f vs
end
def renC (f : Nat → Nat) : Chunk → Chunk
 | .cells T vs => .cells T (renL f vs)
 | .seq e es => .seq e es
 | .loopr st vs ps asg bdy => .loopr st (renL f vs) ps asg bdy
 | .mpc ks vs => .mpc (renL f ks) (renL f vs)
 | .mpb kd kvs => .mpb kd kvs
 | .mpn bs cl ks vs => .mpn bs cl (renL f ks) (renL f vs)
 | .mit z since seen last => .mit (f z) since seen last
 | .sqo e es => .sqo e es
 | .sqp e es => .sqp e (renL f es)
 | .ext c => .ext c
mutual
def namesS : SV → List Nat
 | .ptr x _ => [x]
 | .sl x _ _ _ => [x]
 | .qs x _ _ _ => [x]
 | .qp x _ _ _ => [x]
 | .qo x _ _ => [x]
 | .qop x _ _ _ => [x]
 | .mp x => [x]
 | .yl x => [x]
 | .fn _ a b => namesL a ++ namesL b
 | .iface _ v => namesS v
 | .agg cs => namesL cs
 | .tup vs => namesL vs
 | _ => []
def namesL : List SV → List Nat
 | [] => []
 | v :: vs => namesS v ++ namesL vs
end
def namesC : Chunk → List Nat
 | .cells _ vs => namesL vs
 | .seq _ _ => []
 | .loopr _ vs _ _ _ => namesL vs
 | .mpc ks vs => namesL ks ++ namesL vs
 | .mpb _ _ => []
 | .mpn _ _ ks vs => namesL ks ++ namesL vs
 | .mit z _ _ _ => [z]
 | .sqo _ _ => []
 | .sqp _ es => namesL es
 | .ext _ => []
def memN : Nat → List Nat → Bool
 | _, [] => false
 | x, y :: l => Nat.beq x y || memN x l
def idxN : List Nat → Nat → Nat
 | [], _ => 0
 | y :: l, x => bif Nat.beq y x then 0 else idxN l x + 1
def closeM (k : HpL → OpM) : Nat → List Nat → HpL → OpM
 | 0, _, _ => .fail
 | _ + 1, [], acc => k acc
 | d + 1, x :: todo, acc =>
  bif memN x (acc.map (·.1)) then closeM k d todo acc
  else .get x fun c => closeM k d (namesC c ++ todo) ((x, c) :: acc)
def locHeap (f : Nat → Nat) : HpL → Nat → HpL
 | [], _ => []
 | (_, c) :: l, i => (i, renC f c) :: locHeap f l (i + 1)
def backName (ns : List Nat) (m nx y : Nat) : Nat := bif Nat.blt y m then ns.getD y 0 else nx + (y - m)
def boundN : List Nat → Nat → Nat
 | [], n => n
 | y :: l, n => boundN l (bif Nat.blt n (y + 1) then y + 1 else n)
def namesU : List (Nat × Option Chunk) → List Nat
 | [] => []
 | (y, some c) :: l => y :: (namesC c ++ namesU l)
 | (y, none) :: l => y :: namesU l
def backUps (f : Nat → Nat) : List (Nat × Option Chunk) → List (Nat × Option Chunk)
 | [] => []
 | (y, some c) :: l => (f y, some (renC f c)) :: backUps f l
 | (y, none) :: l => (f y, none) :: backUps f l
inductive CTree where
 | ret (v : SV) (ups : List (Nat × Option Chunk))
 | ite (b : Bool) (t e : CTree)
 | fail
abbrev CSumm := List SV → HpL → CTree
def ofCTree (ns : List Nat) (m nx : Nat) : CTree → OpM
 | .ret v ups => .done (renS (backName ns m nx) v) (backUps (backName ns m nx) ups) (nx + (boundN (namesS v ++ namesU ups) m - m))
 | .ite b t e => .ite b (ofCTree ns m nx t) (ofCTree ns m nx e)
 | .fail => .fail
def callS (s : CSumm) (args : List SV) (nx : Nat) : OpM :=
 closeM (fun acc =>
  let l := acc.reverse
  let ns := l.map (·.1)
  ofCTree ns ns.length nx (s (renL (idxN ns) args) (locHeap (idxN ns) l 0))) 1000 (namesL args) []
def callM (κ : Nat → Option CSumm) (f : Nat) (args : List SV) (nx : Nat) : OpM :=
 match κ f with
 | none => .fail
 | some s => callS s args nx
def findMeth (name : String) : List Method → Option Method
 | [] => none
 | m :: l => bif m.name == name then some m else findMeth name l
def methodS (P : Program) (t : TypeId) (name : String) : Option Nat :=
 match P.info? t with
 | some i => match findMeth name i.methods.toList with
  | some m => match m.path.toList, m.func with
   | [], some (f, p) => match P.underlying t with
    | some (.pointer _) => bif p then some f else none
    | some _ => bif p then none else some f
    | none => none
   | _, _ => none
  | none => none
 | none => none
def buildSliceS (P : Program) (t : TypeId) (n : Nat) (parts : List (Nat × SV)) (nx : Nat) : OpM :=
 match P.underlying t with
 | some (.slice e) => bif knownT P e && Nat.ble (n * P.cellsOf e) 16777216 && !(Nat.beq (P.cellsOf e) 0) then
   match zeroS P e with
   | some z => match cellsS z with
    | some zs => bif Nat.beq zs.length (P.cellsOf e) then
      match fillS (fun i => some (i * P.cellsOf e, P.cellsOf e)) (repL n zs) parts with
      | some cs => .done (.sl nx (P.cellsOf e) 0 n) [(nx, some (.cells e cs))] (nx + 1)
      | none => .fail
     else .fail
    | none => .fail
   | none => .fail
  else .fail
 | _ => .fail
def isStrT (P : Program) (e : TypeId) : Bool := match P.underlying e with
 | some .string => true
 | _ => false
def makeSliceS (P : Program) (t : TypeId) (l c : SV) (nx : Nat) : OpM :=
 match P.underlying t, l, c with
 | some (.slice e), .int _ a, .int _ b =>
  bif isStrT P e then .fail else
  match P.info? e with
  | some i => match zeroS P e with
   | some z => match cellsS z with
    | some zs => bif Nat.beq zs.length (P.cellsOf e) && !(Nat.beq (P.cellsOf e) 0) then
      .ite (decide (0 ≤ a) && decide (a ≤ b) && decide (b ≤ 16777216) && decide (b * (P.cellsOf e : Int) ≤ 16777216) && decide ((i.bytes : Int) * b ≤ 281474976710656))
       (.done (.sl nx (P.cellsOf e) 0 a.toNat) [(nx, some (.cells e (repL b.toNat zs)))] (nx + 1)) .fail
     else .fail
    | none => .fail
   | none => .fail
  | none => .fail
 | _, _, _ => .fail
def boundS : Option SV → Int → Option Int
 | none, d => some d
 | some (.int _ i), _ => some i
 | _, _ => none
def slicedS (e : TypeId) (y sz off n : Nat) (l h : Int) (nx : Nat) : OpM :=
 .ite (decide (0 ≤ l) && decide (l ≤ h) && decide (h ≤ (n : Int)))
  (.ite (decide (l < (n : Int)) || decide (l = 0)) (.done (.sl y sz (off + l.toNat * sz) (h.toNat - l.toNat)) [] nx) (.done (.psl e []) [] nx)) .fail
def sliceS (P : Program) (t : TypeId) (x : SV) (lo hi mx : Option SV) (nx : Nat) : OpM :=
 match mx, P.underlying t, x with
 | none, some (.slice e), .sl y sz off n =>
  match boundS lo 0, boundS hi n with
  | some l, some h => bif knownT P e && Nat.beq sz (P.cellsOf e) then slicedS e y sz off n l h nx else .fail
  | _, _ => .fail
 | _, _, _ => .fail
def sliceArrS (P : Program) (t : TypeId) (x : SV) (lo hi mx : Option SV) (nx : Nat) : OpM :=
 match mx, P.underlying t, x with
 | none, some (.array n e), .ptr y off =>
  match boundS lo 0, boundS hi n with
  | some l, some h => .get y fun c => match c with
   | .cells _ vs => bif knownT P e && Nat.ble (off + n * P.cellsOf e) vs.length then slicedS e y (P.cellsOf e) off n l h nx else .fail
   | _ => .fail
  | _, _ => .fail
 | _, _, _ => .fail
/- Indices, lengths. -/
def inB (i : Int) (n : Nat) : Bool := decide (0 ≤ i) && decide (i < (n : Int))
def indexAddrS (P : Program) (t : TypeId) (x ix : SV) (nx : Nat) : OpM :=
 match ix, P.underlying t, x with
 | .int _ i, some (.array n e), .ptr y off => bif knownT P e then .ite (inB i n) (.done (.ptr y (off + i.toNat * P.cellsOf e)) [] nx) .fail else .fail
 | .int _ i, some (.slice e), .sl y _ off n => bif knownT P e then .ite (inB i n) (.done (.ptr y (off + i.toNat * P.cellsOf e)) [] nx) .fail else .fail
 | _, _, _ => .fail
def indexS (P : Program) (t : TypeId) (x ix : SV) (nx : Nat) : OpM :=
 match ix, P.underlying t, x with
 | .int _ i, some (.array n e), .agg cs => bif knownT P e then
   match partS P e cs (i.toNat * P.cellsOf e) with
   | some v => .ite (inB i n) (.done v [] nx) .fail
   | none => .fail
  else .fail
 | .int _ i, some .string, .str s => .ite (inB i s.length) (.done (.int .u8 (s.getD i.toNat 0).toNat) [] nx) .fail
 | _, _, _ => .fail
def lenS (P : Program) (t : TypeId) (x : SV) (nx : Nat) : OpM :=
 match P.underlying t, x with
 | some .string, .str s => .done (.int .i64 s.length) [] nx
 | some (.array n _), _ => .done (.int .i64 n) [] nx
 | some (.slice _), .sl _ _ _ n => .done (.int .i64 n) [] nx
 | some (.slice _), .nils => .done (.int .i64 0) [] nx
 | some (.slice _), .psl _ es => .done (.int .i64 es.length) [] nx
 | _, _ => .fail
def builtinS (P : Program) (b : Builtin) (tys : List TypeId) (args : List SV) (nx : Nat) : OpM :=
 match b, tys, args with
 | .len, t :: _, x :: _ => lenS P t x nx
 | _, _, _ => .fail
def opM0 (P : Program) (κ : Nat → Option CSumm) (o : Oper) (ev : Operand → SV) (nx : Nat) : OpM :=
 match o.op with
 | .move x => .done (ev x) [] nx
 | .assign x => .done (ev x) [] nx
 | .pick c a b => match ev c with
  | .bool t => .ite t (.done (ev a) [] nx) (.done (ev b) [] nx)
  | _ => .fail
 | .alloc t => match zeroS P t with
  | some z => match cellsS z with
   | some cs => .done (.ptr nx 0) [(nx, some (.cells t cs))] (nx + 1)
   | none => .fail
  | none => .fail
 | .box t x => match cellsS (ev x) with
  | some cs => .done (.ptr nx 0) [(nx, some (.cells t cs))] (nx + 1)
  | none => .fail
 | .build t ps => buildS P t (ps.toList.map fun p => (p.1, ev p.2)) nx
 | .load t a => match ev a with
  | .ptr x off => .get x fun c => match c with
   | .cells _ vs => match partS P t vs off with
    | some v => .done v [] nx
    | none => .fail
   | _ => .fail
  | _ => .fail
 | .store t a v => match ev a, cellsS (ev v) with
  | .ptr x off, some vs => bif Nat.beq vs.length (P.cellsOf t) && knownT P t then .get x fun c => match c with
    | .cells T cs => match splice cs off vs with
     | some cs' => .done .junk [(x, some (.cells T cs'))] nx
     | none => .fail
    | _ => .fail
   else .fail
  | _, _ => .fail
 | .nilCheck x => match ev x with
  | .ptr y off => .done (.ptr y off) [] nx
  | .fn (.func f) a b => .done (.fn (.func f) a b) [] nx
  | _ => .fail
 | .binOp op t x y _ => match nilEq P t (ev x) (ev y), isEq op with
  | some b, some true => .done (.bool b) [] nx
  | some b, some false => .done (.bool (!b)) [] nx
  | _, _ => binS P op t (ev x) (ev y) nx
 | .unOp op _ x => match op, ev x with
  | .not, .bool b => .done (.bool (!b)) [] nx
  | .neg, .int k n => .done (.int k (k.wrap (0 - n))) [] nx
  | _, _ => .fail
 | .convert s d x => convS P s d (ev x) nx
 | .makeFunc g a b => match g with
  | .func f => .done (.fn (.func f) (a.toList.map ev) (b.toList.map ev)) [] nx
  | _ => .fail
 | .fieldAddr t x f => match ev x, P.underlying t with
  | .ptr y off, some (.struct fs) => match fs[f]? with
   | some fd => bif Nat.beq (P.cellsOf fd.type) 0 then .fail else .done (.ptr y (off + fd.offset)) [] nx
   | none => .fail
  | _, _ => .fail
 | .field t x f => match ev x, P.underlying t with
  | .agg cs, some (.struct fs) => match fs[f]? with
   | some fd => match partS P fd.type cs fd.offset with
    | some v => .done v [] nx
    | none => .fail
   | none => .fail
  | _, _ => .fail
 | .extract x i => match ev x with
  | .tup vs => match nth? vs i with
   | some v => .done v [] nx
   | none => .fail
  | _ => .fail
 | .call c => match c.callee with
  | .value f => match ev f with
   | .fn (.func g) first caps => callM κ g (first ++ (c.args.toList.map ev ++ caps)) nx
   | _ => .fail
  | .builtin b => builtinS P b c.argTypes.toList (c.args.toList.map ev) nx
  | .invoke r m => match ev r with
   | .iface t v => match methodS P t m with
    | some g => callM κ g (v :: c.args.toList.map ev) nx
    | none => .fail
   | _ => .fail
 | .buildSlice t n ps => buildSliceS P t n (ps.toList.map fun p => (p.1, ev p.2)) nx
 | .makeSlice t l c => makeSliceS P t (ev l) (ev c) nx
 | .slice t x lo hi mx => sliceS P t (ev x) (lo.map ev) (hi.map ev) (mx.map ev) nx
 | .indexAddr t x ix => indexAddrS P t (ev x) (ev ix) nx
 | .index t x ix => indexS P t (ev x) (ev ix) nx
 | _ => .fail
mutual
def noOpq : SV → Bool
 | .opq _ => false
 | .fn _ a b => noOpqL a && noOpqL b
 | .iface _ v => noOpq v
 | .agg cs => noOpqL cs
 | .tup vs => noOpqL vs
 | _ => true
def noOpqL : List SV → Bool
 | [] => true
 | v :: vs => noOpq v && noOpqL vs
end
def noOpqC : Chunk → Bool
 | .cells _ vs => noOpqL vs
 | .seq _ _ => true
 | .loopr _ vs _ _ _ => noOpqL vs
 | .mpc ks vs => noOpqL ks && noOpqL vs
 | .mpb _ _ => true
 | .mpn _ _ ks vs => noOpqL ks && noOpqL vs
 | .mit _ _ _ _ => true
 | .sqo _ _ => true
 | .sqp _ es => noOpqL es
 | .ext _ => true
/- Further operations: lists that grow, what is known by content, maps that are written out. -/
def frzLeaf (P : Program) (t : TypeId) (k : SV → List Nat → OpM) : SV → OpM
 | .qs y sz l n =>
  match P.underlying t with
  | some (.slice e) => .get y fun c => match c with
   | .seq e' es => bif Nat.beq e e' && Nat.beq sz (P.cellsOf e) then .ite (decide (l = 0) && decide (n = es.length)) (k (.psl e es) [y]) .fail else .fail
   | _ => .fail
  | _ => .fail
 | .emp => match P.underlying t with
  | some (.slice e) => k (.psl e []) []
  | _ => .fail
 | c => k (coerceLeaf P t c) []
def frzL (P : Program) (k : List SV → List Nat → OpM) : List TypeId → List SV → List SV → List Nat → OpM
 | u :: us, c :: cs, acc, ys => frzLeaf P u (fun c' zs => frzL P k us cs (acc ++ [c']) (ys ++ zs)) c
 | [], [], acc, ys => k acc ys
 | _, _, _, _ => .fail
def sizedS (P : Program) (t : TypeId) (v : SV) : Bool :=
 match cellsS v with
 | some cs => Nat.beq cs.length (P.cellsOf t)
 | none => false
def frzM (P : Program) (t : TypeId) (k : SV → List Nat → OpM) (v : SV) : OpM :=
 let k' := fun v' ys => bif fits P t v' && sizedS P t v' then k v' ys else .fail
 bif isAggT P t then
  match v with
  | .agg cs => frzL P (fun cs' ys => k' (.agg cs') ys) (leaves P 40 t) cs [] []
  | _ => .fail
 else frzLeaf P t k' v
def frzAll (P : Program) (t : TypeId) (k : List SV → List Nat → OpM) : List SV → List SV → List Nat → OpM
 | [], acc, ys => k acc ys
 | v :: vs, acc, ys => frzM P t (fun v' zs => frzAll P t k vs (acc ++ [v']) (ys ++ zs)) v
def partsS (P : Program) (t : TypeId) (vs : List SV) : Nat → Nat → Option (List SV)
 | _, 0 => some []
 | off, m + 1 => match partS P t vs off, partsS P t vs (off + P.cellsOf t) m with
  | some v, some l => some (v :: l)
  | _, _ => none
def drops : List Nat → List (Nat × Option Chunk)
 | [] => []
 | y :: ys => (y, none) :: drops ys
def byteSV (b : UInt8) : SV := .int .u8 b.toNat
def elemsM (P : Program) (e : TypeId) (k : List SV → List Nat → OpM) : SV → OpM
 | .sl y sz off m => .get y fun c => match c with
  | .cells _ cs => bif Nat.beq sz (P.cellsOf e) then match partsS P e cs off m with
   | some vs => frzAll P e k vs [] []
   | none => .fail
   else .fail
  | _ => .fail
 | .qs y sz l m => .get y fun c => match c with
  | .seq e' es => bif Nat.beq e e' && Nat.beq sz (P.cellsOf e) then
    .ite (decide (l = 0) && decide (m = es.length)) (k es []) (.ite (decide (l + m ≤ es.length)) (k ((es.drop l).take m) []) .fail) else .fail
  | _ => .fail
 | .psl e' es => bif Nat.beq e e' then k es [] else .fail
 | .pnn e' es => bif Nat.beq e e' then k es [] else .fail
 | .nils => k [] []
 | .emp => k [] []
 | .str s => match P.underlying e with
  | some (.int .u8) => bif Nat.beq (P.cellsOf e) 1 then k (s.map byteSV) [] else .fail
  | _ => .fail
 | _ => .fail
def plainLeaf (P : Program) (t : TypeId) : Bool :=
 match P.underlying t with
 | some .bool => true
 | some (.int _) => true
 | some .string => true
 | some (.slice _) => true
 | _ => false
def plainE (P : Program) (e : TypeId) : Bool := bif isAggT P e then (leaves P 40 e).all (plainLeaf P) else plainLeaf P e
def apartN : List Nat → List Nat → Bool
 | [], _ => true
 | x :: l, m => !memN x m && apartN l m
def growS (P : Program) (e : TypeId) (es news : List SV) (dead ys : List Nat) (nx : Nat) : OpM :=
 match P.info? e with
 | some i => match i.zero with
  | some z => bif Nat.beq z.cells.size (P.cellsOf e) && !(Nat.beq (P.cellsOf e) 0) && apartN dead ys then
    .ite (decide (es.length + news.length ≤ 9223372036854775807) && decide ((es.length + news.length) * i.bytes ≤ 140737488355328))
     (.done (.qs nx (P.cellsOf e) 0 (es.length + news.length)) (drops (dead ++ ys) ++ [(nx, some (.seq e (es ++ news)))]) (nx + 1)) .fail
   else .fail
  | none => .fail
 | none => .fail
def qCells : Nat := 26
def growQ (P : Program) (e : TypeId) (es news : List SV) (dead ys : List Nat) (nx : Nat) : OpM :=
 match P.info? e with
 | some i => match i.zero with
  | some z => bif Nat.beq z.cells.size (P.cellsOf e) && !(Nat.beq (P.cellsOf e) 0) && apartN dead ys then
    .ite (decide (0 < news.length) && (decide (es.length + news.length ≤ 9223372036854775807) && decide ((es.length + news.length) * i.bytes ≤ 140737488355328)))
     (.done (.qo nx (P.cellsOf e) (es.length + news.length)) (drops (dead ++ ys) ++ [(nx, some (.sqo e (es ++ news)))]) (nx + 1)) .fail
   else .fail
  | none => .fail
 | none => .fail
def listLike (P : Program) (t : TypeId) : Bool :=
 match P.underlying t with
 | some (.slice _) => true
 | some .string => true
 | _ => false
def appendP (P : Program) (e t' : TypeId) (s x : SV) (nx : Nat) : OpM :=
 match P.info? e with
 | some i => match i.zero with
  | some z => bif Nat.beq z.cells.size 1 && Nat.beq (P.cellsOf e) 1 && listLike P t' then
    match s, x with
    | .nils, .sl y sz off m => .get y fun c => match c with
     | .cells _ cs => bif Nat.beq sz 1 then
       match takeN cs off m with
       | some vs => .ite (decide (0 < m) && (decide (m ≤ 9223372036854775807) && decide (m * i.bytes ≤ 140737488355328))) (.done (.qs nx 1 0 m) [(nx, some (.sqp e vs))] (nx + 1)) .fail
       | none => .fail
      else .fail
     | _ => .fail
    | _, _ => .fail
   else .fail
  | none => .fail
 | none => .fail
def appendX (P : Program) (t t' : TypeId) (s x : SV) (nx : Nat) : OpM :=
 match P.underlying t with
 | some (.slice e) =>
  bif listLike P t' && plainE P e then
   match s with
   | .nils => bif Nat.beq (P.cellsOf e) qCells then elemsM P e (fun news ys => growQ P e [] news [] ys nx) x else elemsM P e (fun news ys => growS P e [] news [] ys nx) x
   | .qo y sz n => .get y fun c => match c with
    | .sqo e' es => bif Nat.beq e e' && Nat.beq sz (P.cellsOf e) then .ite (decide (n = es.length)) (elemsM P e (fun news ys => growQ P e es news [y] ys nx) x) .fail else .fail
    | _ => .fail
   | .emp => elemsM P e (fun news ys => growS P e [] news [] ys nx) x
   | .qs y sz l n => .get y fun c => match c with
    | .seq e' es => bif Nat.beq e e' && Nat.beq sz (P.cellsOf e) && Nat.beq l 0 then .ite (decide (n = es.length)) (elemsM P e (fun news ys => growS P e es news [y] ys nx) x) .fail else .fail
    | _ => .fail
   | .sl y sz off n => .get y fun c => match c with
    | .cells T cs => bif Nat.beq sz (P.cellsOf e) && Nat.beq T e && Nat.beq off 0 && Nat.ble (n * sz) cs.length then match partsS P e cs 0 n with
      | some vs => frzAll P e (fun es ys => elemsM P e (fun news ys' => growS P e es news [y] (ys ++ ys') nx) x) vs [] []
      | none => .fail
     else .fail
    | _ => .fail
   | _ => .fail
  else appendP P e t' s x nx
 | _ => .fail
def slc3X (P : Program) (e : TypeId) (x : SV) (l h k : Int) (nx : Nat) : OpM :=
 match x with
 | .qs y sz i n => bif Nat.beq sz (P.cellsOf e) then .ite (decide (0 ≤ l) && decide (l ≤ h) && decide (h ≤ k) && decide (k ≤ (n : Int))) (.done (.qs y sz (i + l.toNat) (h.toNat - l.toNat)) [] nx) .fail else .fail
 | _ => .fail
def byteL : List SV → Bool
 | [] => true
 | .int .u8 _ :: l => byteL l
 | _ => false
def byteT (P : Program) (e : TypeId) : Bool := match P.underlying e with
 | some (.int .u8) => Nat.beq (P.cellsOf e) 1
 | _ => false
def pelS (P : Program) (e : TypeId) (n : Nat) (v : SV) (off : Nat) (nx : Nat) : OpM :=
 match cellsS v with
 | some cs => match takeN cs off n with
  | some bs => bif knownT P e && (byteT P e && (byteL bs && Nat.ble 1 n)) then .done (.psl e bs) [] nx else .fail
  | none => .fail
 | none => .fail
def bvals (es : List SV) : Nat → Nat → List SV
 | _, 0 => []
 | i, n + 1 => .int .u8 (asI (es.getD i .junk)) :: bvals es (i + 1) n
def s2apX (P : Program) (t : TypeId) (x : SV) (nx : Nat) : OpM :=
 match P.underlying t, x with
 | some (.array n e), .psl e' es => bif byteT P e && Nat.beq e e' && Nat.ble 1 n then .ite (decide (n ≤ es.length)) (.done (.pel (.agg (bvals es 0 n)) 0) [] nx) .fail else .fail
 | _, _ => .fail
def slcX (P : Program) (t : TypeId) (x : SV) (lo hi mx : Option SV) (nx : Nat) : OpM :=
 match mx with
 | none =>
  match P.underlying t, x with
  | some .string, .str s => match boundS lo 0, boundS hi s.length with
   | some l, some h => .ite (decide (0 ≤ l) && decide (l ≤ h) && decide (h ≤ (s.length : Int))) (.done (.str ((s.drop l.toNat).take (h.toNat - l.toNat))) [] nx) .fail
   | _, _ => .fail
  | some (.slice e), .psl e' es => match boundS lo 0, boundS hi es.length with
   | some l, some h => bif Nat.beq e e' && knownT P e then .ite (decide (0 ≤ l) && decide (l ≤ h) && decide (h ≤ (es.length : Int))) (.done (.psl e ((es.drop l.toNat).take (h.toNat - l.toNat))) [] nx) .fail else .fail
   | _, _ => .fail
  | some (.slice e), .qs y sz k n => match boundS lo 0, boundS hi n with
   | some l, some h => bif Nat.beq sz (P.cellsOf e) && knownT P e then .ite (decide (0 ≤ l) && decide (l ≤ h) && decide (h ≤ (n : Int))) (.done (.qs y sz (k + l.toNat) (h.toNat - l.toNat)) [] nx) .fail else .fail
   | _, _ => .fail
  | some (.slice e), .nils => match boundS lo 0, boundS hi 0 with
   | some l, some h => bif knownT P e then .ite (decide (l = 0) && decide (h = 0)) (.done .nils [] nx) .fail else .fail
   | _, _ => .fail
  | some (.array _ _), .ptr _ _ => sliceArrS P t x lo hi mx nx
  | some (.array n e), .pel v off => match lo, hi with
   | none, none => pelS P e n v off nx
   | _, _ => .fail
  | _, _ => .fail
 | some m =>
  match P.underlying t, boundS lo 0, boundS hi 1, boundS (some m) 1 with
  | some (.slice e), some l, some h, some k => bif knownT P e && (match hi with
    | some _ => true
    | none => false) then
    .ite (decide (l = 0) && decide (h = 0) && decide (k = 0)) (match x with
     | .nils => .done .nils [] nx
     | .emp => .done .emp [] nx
     | .psl _ _ => .done .emp [] nx
     | .pnn _ _ => .done .emp [] nx
     | .qs _ _ _ _ => .done .emp [] nx
     | .sl _ _ _ _ => .done .emp [] nx
     | _ => .fail) (slc3X P e x l h k nx)
   else .fail
  | _, _, _, _ => .fail
def slcQ (P : Program) (t : TypeId) (y sz n : Nat) (l : Int) (nx : Nat) : OpM :=
 match P.underlying t with
 | some (.slice e) => bif Nat.beq sz (P.cellsOf e) && knownT P e then .get y fun c => match c with
   | .sqo e' es => bif Nat.beq e e' then .ite (decide (0 ≤ l) && decide (l ≤ (n : Int)) && decide (n = es.length)) (.done (.qo nx sz (n - l.toNat)) [(y, none), (nx, some (.sqo e (es.drop l.toNat)))] (nx + 1)) .fail else .fail
   | _ => .fail
  else .fail
 | _ => .fail
def sliceX (P : Program) (t : TypeId) (lo hi mx : Bool) (as : List SV) (nx : Nat) : OpM :=
 match lo, hi, mx, as with
 | false, false, false, [x] => slcX P t x none none none nx
 | true, false, false, [x, l] => slcX P t x (some l) none none nx
 | false, true, false, [x, h] => slcX P t x none (some h) none nx
 | true, true, false, [x, l, h] => slcX P t x (some l) (some h) none nx
 | false, true, true, [x, h, m] => slcX P t x none (some h) (some m) nx
 | true, true, true, [x, l, h, m] => slcX P t x (some l) (some h) (some m) nx
 | _, _, _, _ => .fail
/- Tables: package-level variables that are arrays of integers, as the program's own initialisers lay them. -/
def litsOf : List Operand → Option (List (IntKind × Int))
 | [] => some []
 | .const (.int k n) :: l => match litsOf l with
  | some r => some ((k, n) :: r)
  | none => none
 | _ => none
def tabOf : List Oper → Option (Nat × List (IntKind × Int))
 | [o, p] => match o.op, o.dst, p.op with
  | .build _ ps, some t, .store _ (.global g) (.tmp t') => bif Nat.beq t t' && (ps.map (·.1)).toList == List.range ps.size then match litsOf (ps.map (·.2)).toList with
   | some l => some (g, l)
   | none => none
   else none
  | _, _, _ => none
 | _ => none
def tabsC : Code → List (Nat × List (IntKind × Int))
 | .region _ ops _ => match tabOf ops.toList with
  | some e => [e]
  | none => []
 | .seq a b => tabsC a ++ tabsC b
 | _ => []
def tabNames : List String := ["internal/strconv.uint64pow10"]
def gtab (P : Program) : List (Nat × List (IntKind × Int)) :=
 match P.funcNamed "gosem.cut.vars" with
 | some f => match (P.funcs[f]?).bind (·.body) with
  | some c => (tabsC c).filter fun e => ((P.globals[e.1]?).map fun g => tabNames.contains g.name) == some true
  | none => []
 | none => []
def tabAt : List (Nat × List (IntKind × Int)) → Nat → List (IntKind × Int)
 | [], _ => []
 | (g, l) :: r, x => bif Nat.beq g x then l else tabAt r x
def indexAddrX (P : Program) (t : TypeId) (x ix : SV) (nx : Nat) : OpM :=
 match ix, P.underlying t, x with
 | .int _ i, some (.slice e), .psl e' es => bif Nat.beq e e' && knownT P e then .ite (inB i es.length) (.done (.pel (expand P e (es.getD i.toNat .junk)) 0) [] nx) .fail else .fail
 | .int _ i, some (.slice e), .qs y sz k n => bif Nat.beq sz (P.cellsOf e) && knownT P e then .ite (inB i n) (.done (.qp y sz (k + i.toNat) 0) [] nx) .fail else .fail
 | .int _ i, some (.slice e), .qo y sz n => bif Nat.beq sz (P.cellsOf e) && knownT P e then .ite (inB i n) (.done (.qop y sz i.toNat 0) [] nx) .fail else .fail
 | .int _ i, some (.array n e), .pel v off => bif knownT P e then .ite (inB i n) (.done (.pel v (off + i.toNat * P.cellsOf e)) [] nx) .fail else .fail
 | .int _ i, some (.array n e), .qp y sz k off => bif knownT P e then .ite (inB i n) (.done (.qp y sz k (off + i.toNat * P.cellsOf e)) [] nx) .fail else .fail
 | .int _ i, some (.array n e), .gp g off => bif knownT P e then .ite (inB i n) (.done (.gp g (off + i.toNat * P.cellsOf e)) [] nx) .fail else .fail
 | _, _, _ => .fail
def loadX (P : Program) (t : TypeId) (a : SV) (nx : Nat) : OpM :=
 match a with
 | .pel v off => match cellsS v with
  | some cs => match partS P t cs off with
   | some u => bif noOpq u then .done u [] nx else .fail
   | none => .fail
  | none => .fail
 | .qp y sz k off => .get y fun c => match c with
  | .seq e es => bif Nat.beq sz (P.cellsOf e) then
    match cellsS (expand P e (es.getD k .junk)) with
    | some cs => match partS P t cs off with
     | some u => bif noOpq u then .ite (decide (k < es.length)) (.done u [] nx) .fail else .fail
     | none => .fail
    | none => .fail
   else .fail
  | .sqp _ es => bif Nat.beq sz 1 && Nat.beq off 0 then
    match partS P t es k with
    | some u => .done u [] nx
    | none => .fail
   else .fail
  | _ => .fail
 | .qop y sz k off => .get y fun c => match c with
  | .sqo e es => bif Nat.beq sz (P.cellsOf e) then
    match cellsS (expand P e (es.getD k .junk)) with
    | some cs => match partS P t cs off with
     | some u => bif noOpq u then .ite (decide (k < es.length)) (.done u [] nx) .fail else .fail
     | none => .fail
    | none => .fail
   else .fail
  | _ => .fail
 | .gp g off => match P.underlying t with
  | some (.int k) => .ite (decide (off < (tabAt (gtab P) g).length) && ((tabAt (gtab P) g).getD off (k, 0)).1 == k) (.done (.int k ((tabAt (gtab P) g).getD off (k, 0)).2) [] nx) .fail
  | _ => .fail
 | _ => .fail
def storeX (P : Program) (t : TypeId) (a v : SV) (nx : Nat) : OpM :=
 match a with
 | .qp y sz k off => bif knownT P t then .get y fun c => match c with
  | .seq e es => bif Nat.beq sz (P.cellsOf e) then
    match cellsS (expand P e (es.getD k .junk)) with
    | some cs => frzM P t (fun v' ys => match cellsS v' with
     | some vs => bif Nat.beq vs.length (P.cellsOf t) && !(memN y ys) then match splice cs off vs with
      | some cs' => match (bif isAggT P e then some (.agg cs') else bif Nat.beq sz 1 then nth? cs' 0 else none) with
       | some w => bif fits P e w && Nat.beq cs'.length sz then .ite (decide (k < es.length)) (.done .junk (drops ys ++ [(y, some (.seq e (es.set k w)))]) nx) .fail else .fail
       | none => .fail
      | none => .fail
      else .fail
     | none => .fail) v
    | none => .fail
   else .fail
  | _ => .fail
  else .fail
 | _ => .fail
def fieldAddrX (P : Program) (t : TypeId) (x : SV) (f : Nat) (nx : Nat) : OpM :=
 match P.underlying t with
 | some (.struct fs) => match fs[f]? with
  | some fd => bif Nat.beq (P.cellsOf fd.type) 0 then .fail else
   match x with
   | .pel v off => .done (.pel v (off + fd.offset)) [] nx
   | .qp y sz k off => .done (.qp y sz k (off + fd.offset)) [] nx
   | .qop y sz k off => .done (.qop y sz k (off + fd.offset)) [] nx
   | _ => .fail
  | none => .fail
 | _ => .fail
/- Maps that are written out: keys of one scalar kind. -/
def keyEq : SV → SV → Option Bool
 | .int k a, .int k' b => bif ikEq k k' then some (a == b) else none
 | .str a, .str b => some (a == b)
 | .bool a, .bool b => some (a == b)
 | _, _ => none
def findM (key : SV) (hit : Nat → OpM) (miss : OpM) : List SV → Nat → OpM
 | [], _ => miss
 | x :: xs, i => match keyEq key x with
  | some b => .ite b (hit i) (findM key hit miss xs (i + 1))
  | none => .fail
def keyT (P : Program) (kt : TypeId) (k : SV) : Bool :=
 match P.underlying kt, k with
 | some (.int a), .int b _ => ikEq a b
 | some .string, .str _ => true
 | some .bool, .bool _ => true
 | _, _ => false
def setN {α : Type} : List α → Nat → α → List α
 | [], _, _ => []
 | _ :: l, 0, v => v :: l
 | x :: l, n + 1, v => x :: setN l n v
def mapSetX0 (P : Program) (t : TypeId) (m k v : SV) (nx : Nat) : OpM :=
 match P.underlying t, m with
 | some (.map kt _), .mp y => bif keyT P kt k then .get y fun c => match c with
   | .mpc ks vs => bif Nat.beq ks.length vs.length then findM k (fun i => .done .junk [(y, some (.mpc ks (setN vs i v)))] nx) (.done .junk [(y, some (.mpc (ks ++ [k]) (vs ++ [v])))] nx) ks 0 else .fail
   | _ => .fail
  else .fail
 | _, _ => .fail
/- Maps from numbers to truth values. -/
def lookB : List (Int × Bool) → Int → Bool
 | [], _ => false
 | (a, b) :: l, k => bif k == a then b else lookB l k
def hasB : List (Int × Bool) → Int → Bool
 | [], _ => false
 | (a, _) :: l, k => bif k == a then true else hasB l k
def setB (k : Int) (v : Bool) : List (Int × Bool) → List (Int × Bool)
 | [] => [(k, v)]
 | (a, b) :: l => bif k == a then (a, v) :: l else (a, b) :: setB k v l
def mapSetX (P : Program) (t : TypeId) (m k v : SV) (nx : Nat) : OpM :=
 match P.underlying t, m with
 | some (.map kt _), .mp y => bif keyT P kt k then .get y fun c => match c with
   | .mpc ks vs => bif Nat.beq ks.length vs.length then findM k (fun i => .done .junk [(y, some (.mpc ks (setN vs i v)))] nx) (.done .junk [(y, some (.mpc (ks ++ [k]) (vs ++ [v])))] nx) ks 0 else .fail
   | .mpb kd kvs => match k, v with
    | .int kd' a, .bool b => bif ikEq kd' kd then .done .junk [(y, some (.mpb kd (setB a b kvs)))] nx else .fail
    | _, _ => .fail
   | _ => .fail
  else .fail
 | _, _ => .fail
def lookupX0 (P : Program) (t : TypeId) (m k : SV) (ok : Bool) (nx : Nat) : OpM :=
 match P.underlying t, m with
 | some (.map kt et), .mp y => bif keyT P kt k then
   match zeroS P et with
   | some z => .get y fun c => match c with
    | .mpc ks vs => findM k (fun i => match nth? vs i with
      | some v => .done (bif ok then .tup [v, .bool true] else v) [] nx
      | none => .fail) (.done (bif ok then .tup [z, .bool false] else z) [] nx) ks 0
    | _ => .fail
   | none => .fail
  else .fail
 | some (.map kt et), .nilm => bif keyT P kt k then
   match zeroS P et with
   | some z => .done (bif ok then .tup [z, .bool false] else z) [] nx
   | none => .fail
  else .fail
 | _, _ => .fail
def lookupX (P : Program) (t : TypeId) (m k : SV) (ok : Bool) (nx : Nat) : OpM :=
 match P.underlying t, m with
 | some (.map kt et), .mp y => bif keyT P kt k then
   match zeroS P et with
   | some z => .get y fun c => match c with
    | .mpc ks vs => findM k (fun i => match nth? vs i with
      | some v => .done (bif ok then .tup [v, .bool true] else v) [] nx
      | none => .fail) (.done (bif ok then .tup [z, .bool false] else z) [] nx) ks 0
    | .mpb kd kvs => match k, z with
     | .int kd' a, .bool false => bif ikEq kd' kd then .done (bif ok then .tup [.bool (lookB kvs a), .bool (hasB kvs a)] else .bool (lookB kvs a)) [] nx else .fail
     | _, _ => .fail
    | _ => .fail
   | none => .fail
  else .fail
 | some (.map kt et), .nilm => bif keyT P kt k then
   match zeroS P et with
   | some z => .done (bif ok then .tup [z, .bool false] else z) [] nx
   | none => .fail
  else .fail
 | _, _ => .fail
/- Strings and bytes. -/
def byteOf : SV → UInt8
 | .int _ n => UInt8.ofNat n.toNat
 | _ => 0
def convU (P : Program) (s d : TypeId) (x : SV) (nx : Nat) : OpM :=
 match P.underlying s, P.underlying d, x with
 | some (.pointer t), some .unsafePointer, .ptr y o => bif Nat.beq (P.cellsOf t) 0 then .fail else .get y fun c => match c with
  | .cells _ cs => bif Nat.blt o cs.length then .done (.ptr y o) [] nx else .fail
  | _ => .fail
 | some .unsafePointer, some (.pointer u), .ptr y o => .get y fun c => match c with
  | .cells T cs => bif knownT P u && liesAt P P.depth T (cs.length / P.cellsOf T) o u 1 then .done (.ptr y o) [] nx else .fail
  | _ => .fail
 | _, _, _ => .fail
def unsafeStrX (P : Program) (pt : TypeId) (p n : SV) (nx : Nat) : OpM :=
 match P.underlying pt, p, n with
 | some (.pointer e), .qp y sz i off, .int .i64 m => match P.underlying e with
  | some (.int .u8) => bif Nat.beq (P.cellsOf e) 1 && Nat.beq sz 1 && Nat.beq i 0 && Nat.beq off 0 then .get y fun c => match c with
    | .seq e' es => bif Nat.beq e' e then .ite (decide (m = es.length) && decide (0 < es.length) && decide (es.length ≤ 9223372036854775807)) (.done (.str (es.map byteOf)) [(y, none)] nx) .fail else .fail
    | _ => .fail
   else .fail
  | _ => .fail
 | _, _, _ => .fail
def sliceDataX (x : SV) (nx : Nat) : OpM :=
 match x with
 | .qs y sz l n => .ite (decide (0 < n)) (.done (.qp y sz l 0) [] nx) .fail
 | _ => .fail
def overB (xs : List SV) : Nat → List SV → List SV
 | _, [] => []
 | j, c :: cs => .int .u8 (bif Nat.blt j xs.length then asI (xs.getD j .junk) else asI c) :: overB xs (j + 1) cs
def copySlX (P : Program) (e t' : TypeId) (y off m : Nat) (s : SV) (nx : Nat) : OpM :=
 bif listLike P t' && plainE P e && byteT P e then
  elemsM P e (fun xs ys => match ys with
   | [] => .get y fun c => match c with
    | .cells T cs => match takeN cs off m with
     | some part => match splice cs off (overB xs 0 part) with
      | some cs' => bif byteL part then .ite (decide (xs.length ≤ m)) (.done (.int .i64 xs.length) [(y, some (.cells T cs'))] nx) .fail else .fail
      | none => .fail
     | none => .fail
    | _ => .fail
   | _ => .fail) s
 else .fail
def copyX (P : Program) (t t' : TypeId) (d s : SV) (nx : Nat) : OpM :=
 match P.underlying t, d with
 | some (.slice e), .qs y sz l m => bif listLike P t' && plainE P e && Nat.beq (P.cellsOf e) 1 && Nat.beq sz 1 then
   elemsM P e (fun xs ys => match ys with
    | [] => .get y fun c => match c with
     | .seq e' es => bif Nat.beq e' e then .ite (decide (xs.length ≤ m) && decide (l ≤ es.length)) (.done (.int .i64 xs.length) [(y, some (.seq e (es.take l ++ xs ++ es.drop (l + xs.length))))] nx) .fail else .fail
     | _ => .fail
    | _ => .fail) s
  else .fail
 | some (.slice e), .sl y sz off m => bif Nat.beq sz 1 then copySlX P e t' y off m s nx else .fail
 | _, _ => .fail
def rawX (P : Program) (ts : List TypeId) (args : List SV) (nx : Nat) : OpM :=
 match ts, args with
 | [t], [.int .i64 n] => match P.underlying t with
  | some (.slice e) => bif Nat.beq (P.cellsOf e) 1 then .ite (decide (0 ≤ n) && decide (n ≤ 16777216)) (.done (.qs nx 1 0 n.toNat) [(nx, some (.seq e []))] (nx + 1)) .fail else .fail
  | _ => .fail
 | _, _ => .fail
def externX (P : Program) (g : Nat) (args : List SV) (nx : Nat) : OpM :=
 match P.funcs[g]? with
 | some fn => bif fn.body.isNone && fn.origin == "" then
   bif fn.name == "internal/bytealg.IndexByteString" then match args with
    | [.str l, .int .u8 c] => .done (.int .i64 (Lib.indexByte l c.toNat.toUInt8)) [] nx
    | _ => .fail
   else bif fn.name == "internal/abi.NoEscape" then match args with
    | [x] => .done x [] nx
    | _ => .fail
   else bif fn.name == "internal/bytealg.CountString" then match args with
    | [.str l, .int .u8 c] => .done (.int .i64 (Lib.countByte l c.toNat.toUInt8)) [] nx
    | _ => .fail
   else bif fn.name == "internal/bytealg.MakeNoZero" then rawX P fn.resultTypes.toList args nx
   else .fail
  else .fail
 | none => .fail
def convX (P : Program) (s d : TypeId) (x : SV) (nx : Nat) : OpM :=
 match P.underlying s, P.underlying d with
 | some .string, some (.slice e) => match P.underlying e, x with
  | some (.int .u8), .str l => bif Nat.beq (P.cellsOf e) 1 then .done (.qs nx 1 0 l.length) [(nx, some (.seq e (l.map byteSV)))] (nx + 1) else .fail
  | _, _ => .fail
 | some (.slice e), some .string => match P.underlying e with
  | some (.int .u8) => bif Nat.beq (P.cellsOf e) 1 && plainE P e then match x with
    | .str _ => .fail
    | x => elemsM P e (fun es ys => match ys with
     | [] => .done (.str (es.map byteOf)) [] nx
     | _ => .fail) x
   else .fail
  | _ => .fail
 | _, _ => convU P s d x nx
/- Maps by rows of any plain type, with the age of each entry; what goes over them. -/
def rowT (P : Program) (kt : TypeId) : Bool := plainEq P 40 kt && isAggT P kt
def rowMapT (P : Program) (t : TypeId) : Bool := match P.underlying t with
 | some (.map kt _) => rowT P kt
 | _ => false
def rowK (P : Program) (kt : TypeId) : SV → Option (List SV)
 | .agg cs => bif fitsAll P (leaves P 40 kt) cs then some cs else none
 | _ => none
def findR (P : Program) (kt : TypeId) (key : List SV) (hit : Nat → OpM) (miss : OpM) : List SV → Nat → OpM
 | [], _ => miss
 | x :: xs, i => match rowK P kt x with
  | some bs => match eqLeaves key bs with
   | some b => .ite b (hit i) (findR P kt key hit miss xs (i + 1))
   | none => .fail
  | none => .fail
def delN {α : Type} : List α → Nat → List α
 | [], _ => []
 | _ :: l, 0 => l
 | x :: l, n + 1 => x :: delN l n
/- Open maps. -/
def rowEq (cs : List SV) : SV → Option Bool
 | .agg bs => eqLeaves cs bs
 | _ => none
def eqAll (cs : List SV) : List SV → Bool
 | [] => true
 | x :: xs => (match rowEq cs x with
  | some _ => true
  | none => false) && eqAll cs xs
def kHit (cs : List SV) (x : SV) : Bool := match rowEq cs x with
 | some b => b
 | none => false
def idxH (cs : List SV) : List SV → Nat
 | [] => 0
 | x :: xs => bif kHit cs x then 0 else idxH cs xs + 1
def hasH (cs : List SV) : List SV → Bool
 | [] => false
 | x :: xs => kHit cs x || hasH cs xs
def putO {α : Type} (cs : List SV) (ks : List SV) (l : List α) (old new : α) : List α := bif hasH cs ks then setN l (idxH cs ks) old else l ++ [new]
def coOk (P : Program) (t : TypeId) (v : SV) : Bool :=
 fits P t (coerce P t v) && (match v with
  | .agg cs => Nat.beq cs.length (leaves P 40 t).length
  | _ => true)
def mapSetO (P : Program) (kt et : TypeId) (y : Nat) (cs : List SV) (k v : SV) (nx : Nat) : XC → OpM
 | .mpo kt' et' bs cl ks vs => bif Nat.beq kt' kt && Nat.beq et' et && coOk P et v then
   .ite (eqAll cs ks) (.done .junk [(y, some (.ext (.mpo kt et (bif hasH cs ks then bs else bs ++ [cl]) (bif hasH cs ks then cl else cl + 1) (bif hasH cs ks then ks else ks ++ [k]) (putO cs ks vs (coerce P et v) (coerce P et v)))))] nx) .fail
  else .fail
 | _ => .fail
def lookupO (P : Program) (kt et : TypeId) (z : SV) (cs : List SV) (ok : Bool) (nx : Nat) : XC → OpM
 | .mpo kt' et' _ _ ks vs => bif Nat.beq kt' kt && Nat.beq et' et then
   .ite (eqAll cs ks) (.ite (hasH cs ks) (.done (bif ok then .tup [expand P et (vs.getD (idxH cs ks) .junk), .bool true] else expand P et (vs.getD (idxH cs ks) .junk)) [] nx) (.done (bif ok then .tup [z, .bool false] else z) [] nx)) .fail
  else .fail
 | _ => .fail
def deleteO (kt : TypeId) (y : Nat) (cs : List SV) (nx : Nat) : XC → OpM
 | .mpo kt' et bs cl ks vs => bif Nat.beq kt' kt then
   .ite (eqAll cs ks) (.done (.tup []) [(y, some (.ext (.mpo kt et (delN bs (idxH cs ks)) cl (delN ks (idxH cs ks)) (delN vs (idxH cs ks)))))] nx) .fail
  else .fail
 | _ => .fail
def mapSetR (P : Program) (t : TypeId) (m k v : SV) (nx : Nat) : OpM :=
 match P.underlying t, m with
 | some (.map kt et), .mp y => bif rowT P kt then
   match rowK P kt k with
   | some cs => .get y fun c => match c with
    | .ext c => mapSetO P kt et y cs k v nx c
    | .mpn bs cl ks vs => findR P kt cs (fun i => .done .junk [(y, some (.mpn bs cl ks (setN vs i v)))] nx) (.done .junk [(y, some (.mpn (bs ++ [cl]) (cl + 1) (ks ++ [k]) (vs ++ [v])))] nx) ks 0
    | _ => .fail
   | none => .fail
  else .fail
 | _, _ => .fail
def lookupR (P : Program) (t : TypeId) (m k : SV) (ok : Bool) (nx : Nat) : OpM :=
 match P.underlying t, m with
 | some (.map kt et), .mp y => bif rowT P kt then
   match zeroS P et, rowK P kt k with
   | some z, some cs => .get y fun c => match c with
    | .ext c => lookupO P kt et z cs ok nx c
    | .mpn _ _ ks vs => findR P kt cs (fun i => match nth? vs i with
      | some v => .done (bif ok then .tup [v, .bool true] else v) [] nx
      | none => .fail) (.done (bif ok then .tup [z, .bool false] else z) [] nx) ks 0
    | _ => .fail
   | _, _ => .fail
  else .fail
 | _, _ => .fail
def deleteR (P : Program) (t : TypeId) (m k : SV) (nx : Nat) : OpM :=
 match P.underlying t, m with
 | some (.map kt _), .mp y => bif rowT P kt then
   match rowK P kt k with
   | some cs => .get y fun c => match c with
    | .ext c => deleteO kt y cs nx c
    | .mpn bs cl ks vs => findR P kt cs (fun i => .done (.tup []) [(y, some (.mpn (delN bs i) cl (delN ks i) (delN vs i)))] nx) (.done (.tup []) [(y, some (.mpn bs cl ks vs))] nx) ks 0
    | _ => .fail
   | none => .fail
  else .fail
 | _, _ => .fail
def rangeR (P : Program) (t : TypeId) (m : SV) (nx : Nat) : OpM :=
 match P.underlying t, m with
 | some (.map _ _), .mp z => .get z fun c => match c with
   | .mpn _ cl _ _ => .done (.ptr nx 0) [(nx, some (.mit z cl [] cl))] (nx + 1)
   | .ext (.mpo _ _ _ cl _ _) => .done (.ptr nx 0) [(nx, some (.mit z cl [] cl))] (nx + 1)
   | _ => .fail
 | _, _ => .fail
def leftR (seen : List Nat) : List Nat → List SV → List SV → List (Nat × SV × SV)
 | b :: bs, k :: ks, v :: vs => bif memN b seen then leftR seen bs ks vs else (b, k, v) :: leftR seen bs ks vs
 | _, _, _ => []
def leftB (seen : List Nat) : List Nat → List Nat
 | [] => []
 | b :: bs => bif memN b seen then leftB seen bs else b :: leftB seen bs
def ageOk (since last : Nat) (bs : List Nat) : Bool := bs.all (fun b => Nat.blt b since) && Nat.ble since last
def nextR (x : SV) (nx : Nat) : OpM :=
 match x with
 | .ptr y 0 => .get y fun c => match c with
  | .mit z since seen last => .get z fun d => match d with
   | .mpn bs cl ks vs => bif ageOk since last bs && Nat.beq ks.length bs.length && Nat.beq vs.length bs.length then
     match leftR seen bs ks vs with
     | [] => .done (.tup [.bool false]) [] nx
     | [(b, k, v)] => .done (.tup [.bool true, k, v]) [(y, some (.mit z since (b :: seen) cl))] nx
     | _ => .fail
    else .fail
   | .ext (.mpo _ _ bs cl _ _) => bif ageOk since last bs then
     match leftB seen bs with
     | [] => .done (.tup [.bool false]) [] nx
     | [b] => .done (.tup [.bool true, .junk, .junk]) [(y, some (.mit z since (b :: seen) cl))] nx
     | _ => .fail
    else .fail
   | _ => .fail
  | _ => .fail
 | _ => .fail
def lastN : List Nat → Option Nat
 | [] => none
 | b :: _ => some b
def bornR (b : Nat) : List Nat → List SV → List SV → Option (SV × SV)
 | a :: bs, k :: ks, v :: vs => bif Nat.beq a b then some (k, v) else bornR b bs ks vs
 | _, _, _ => none
def entryR (P : Program) (x : SV) (nx : Nat) : OpM :=
 match x with
 | .ptr y 0 => .get y fun c => match c with
  | .mit z _ seen last => .get z fun d => match d with
   | .mpn bs cl ks vs => bif Nat.beq cl last then
     match lastN seen with
     | some b => match bornR b bs ks vs with
      | some (k, v) => .done (.tup [k, v]) [] nx
      | none => .fail
     | none => .fail
    else .fail
   | .ext (.mpo kt et bs cl ks vs) => match seen with
    | b :: _ => .ite (Nat.beq cl last && memN b bs) (.done (.tup [expand P kt (ks.getD (idxN bs b) .junk), expand P et (vs.getD (idxN bs b) .junk)]) [] nx) .fail
    | [] => .fail
   | _ => .fail
  | _ => .fail
 | _ => .fail
def isIntV : SV → Bool
 | .int .i64 _ => true
 | _ => false
def makeMapX (P : Program) (t : TypeId) (nx : Nat) : OpM :=
 match P.underlying t with
 | some (.map kt et) => bif rowT P kt then bif plainE P et then .done (.mp nx) [(nx, some (.ext (.mpo kt et [] 0 [] [])))] (nx + 1) else .done (.mp nx) [(nx, some (.mpn [] 0 [] []))] (nx + 1) else (match P.underlying kt, P.underlying et with
  | some (.int kd), some .bool => .done (.mp nx) [(nx, some (.mpb kd []))] (nx + 1)
  | _, _ => .done (.mp nx) [(nx, some (.mpc [] []))] (nx + 1))
 | _ => .fail
def lenX (P : Program) (t : TypeId) (x : SV) (nx : Nat) : OpM :=
 match P.underlying t, x with
 | some (.slice _), .qs _ _ _ n => .done (.int .i64 n) [] nx
 | some (.slice _), .qo _ _ n => .done (.int .i64 n) [] nx
 | some (.slice _), .emp => .done (.int .i64 0) [] nx
 | some (.slice _), .pnn _ es => .done (.int .i64 es.length) [] nx
 | some (.map _ _), .mp y => .get y fun c => match c with
  | .mpc ks _ => .done (.int .i64 ks.length) [] nx
  | .mpb _ kvs => .done (.int .i64 kvs.length) [] nx
  | .mpn _ _ ks _ => .done (.int .i64 ks.length) [] nx
  | .ext (.mpo _ _ _ _ ks _) => .done (.int .i64 ks.length) [] nx
  | _ => .fail
 | _, _ => .fail
def minMaxX (mx : Bool) (x y : SV) (nx : Nat) : OpM :=
 match x, y with
 | .int k a, .int k' b => bif ikEq k k' then bif mx then .done (.int k (bif decide (a < b) then b else a)) [] nx else .done (.int k (bif decide (b < a) then b else a)) [] nx else .fail
 | _, _ => .fail
def builtinX (P : Program) (b : Builtin) (tys : List TypeId) (as : List SV) (nx : Nat) : OpM :=
 match b, tys, as with
 | .append, t :: t' :: _, [s, x] => appendX P t t' s x nx
 | .len, t :: _, [x] => lenX P t x nx
 | .min, _, [x, y] => minMaxX false x y nx
 | .max, _, [x, y] => minMaxX true x y nx
 | .copy, t :: t' :: _, [d, s] => copyX P t t' d s nx
 | .delete, t :: _, [m, k] => deleteR P t m k nx
 | .unsafeSliceData, _, [x] => sliceDataX x nx
 | .unsafeString, t :: _, [x, n] => unsafeStrX P t x n nx
 | _, _, _ => .fail
def assertNo (P : Program) (t : TypeId) (ok : Bool) (nx : Nat) : OpM :=
 bif ok then match zeroS P t with
  | some z => .done (.tup [z, .bool false]) [] nx
  | none => .fail
 else .fail
def assertX (P : Program) (t : TypeId) (ok : Bool) (x : SV) (nx : Nat) : OpM :=
 match P.underlying t, x with
 | some (.interface _), _ => .fail
 | none, _ => .fail
 | some _, .iface t' v => bif Nat.beq t' t then .done (bif ok then .tup [v, .bool true] else v) [] nx else assertNo P t ok nx
 | some _, .nili => assertNo P t ok nx
 | _, _ => .fail
def makeStrX (P : Program) (t : TypeId) (l c : SV) (nx : Nat) : OpM :=
 match P.underlying t, l, c with
 | some (.slice e), .int _ a, .int _ b =>
  match P.underlying e, P.info? e, zeroS P e with
  | some .string, some i, some (.str []) =>
   bif Nat.beq (P.cellsOf e) 1 then
    .ite (decide (0 ≤ a) && decide (a = b) && decide (b ≤ 16777216) && decide ((i.bytes : Int) * b ≤ 281474976710656))
     (.done (.qs nx 1 0 a.toNat) [(nx, some (.seq e (List.replicate a.toNat (.str []))))] (nx + 1)) .fail
   else .fail
  | _, _, _ => .fail
 | _, _, _ => .fail
def isConstO : Operand → Bool
 | .const _ => true
 | _ => false
def opX (P : Program) (o : Op) (as : List SV) (nx : Nat) : OpM :=
 match o, as with
 | .makeInterface t _, [x] => match P.underlying t with
  | some (.interface _) => .fail
  | some _ => .done (.iface t x) [] nx
  | none => .fail
 | .typeAssert _ _ t ok, [x] => assertX P t ok x nx
 | .load t _, [a] => loadX P t a nx
 | .store t _ _, [a, v] => storeX P t a v nx
 | .nilCheck _, [.pel v off] => .done (.pel v off) [] nx
 | .nilCheck _, [.qp y sz k off] => .done (.qp y sz k off) [] nx
 | .fieldAddr t _ f, [x] => fieldAddrX P t x f nx
 | .indexAddr t _ _, [x, i] => indexAddrX P t x i nx
 | .slice t _ lo hi mx, as => match as with
  | [.qo y sz n, .int _ l] => bif lo.isSome && !hi.isSome && !mx.isSome then slcQ P t y sz n l nx else .fail
  | as => sliceX P t lo.isSome hi.isSome mx.isSome as nx
 | .sliceToArrayPointer t _, [x] => s2apX P t x nx
 | .makeSlice t _ _, [l, c] => makeStrX P t l c nx
 | .makeMap t _, [] => makeMapX P t nx
 | .makeMap t _, [n] => bif isIntV n then makeMapX P t nx else .fail
 | .insert t _ _ _, [m, k, v] => bif rowMapT P t then mapSetR P t m k v nx else mapSetX P t m k v nx
 | .mapUpdate t _ _ _, [m, k, v] => bif rowMapT P t then mapSetR P t m k v nx else mapSetX P t m k v nx
 | .lookup t _ _ ok, [m, k] => bif rowMapT P t then lookupR P t m k ok nx else lookupX P t m k ok nx
 | .range t _, [m] => rangeR P t m nx
 | .next _ str, [x] => bif str then .fail else nextR x nx
 | .entry _, [x] => entryR P x nx
 | .convert s d _, [x] => convX P s d x nx
 | .binOp op t _ y0 _, [x, y] => match P.underlying t, x, y, isEq op with
  | some (.interface _), .nili, .nili, some b => bif isConstO y0 then .done (.bool b) [] nx else .fail
  | some (.slice _), .pnn _ _, .nils, some b => .done (.bool (!b)) [] nx
  | some (.slice _), .nils, .pnn _ _, some b => .done (.bool (!b)) [] nx
  | some (.slice _), .sl _ _ _ (_ + 1), .nils, some b => .done (.bool (!b)) [] nx
  | some (.slice _), .qs _ _ _ n, .nils, some b => .ite (decide (0 < n)) (.done (.bool (!b)) [] nx) .fail
  | some (.pointer e), .ptr a i, .ptr b j, some r => bif knownT P e && Nat.beq a b && Nat.beq i j then .done (.bool r) [] nx else .fail
  | _, _, _, _ => .fail
 | .unOp .xor _ _, [.int k n] => .done (.int k (k.wrap (BitVec.ofInt k.bits (if k.signed then -1 else k.max) ^^^ BitVec.ofInt k.bits n).toNat)) [] nx
 | .call c, as => match c.callee with
  | .builtin b => builtinX P b c.argTypes.toList as nx
  | .value _ => match as with
   | .fn (.func g) [] [] :: args => externX P g args nx
   | _ => .fail
  | _ => .fail
 | _, _ => .fail
def keysOk (rs : List Nat) (n n' : Nat) : List (Nat × Option Chunk) → Bool
 | [] => true
 | (x, _) :: l => (memN x rs || (Nat.ble n x && Nat.blt x n')) && keysOk rs n n' l
def chkM (n : Nat) : OpM → List Nat → OpM
 | .done r ups nx, rs => bif Nat.ble n nx && keysOk rs n nx ups then .done r ups nx else .fail
 | .get x k, rs => .get x fun c => chkM n (k c) (x :: rs)
 | .ite b t e, rs => .ite b (chkM n t rs) (chkM n e rs)
 | .fail, _ => .fail
def opM (P : Program) (κ : Nat → Option CSumm) (o : Oper) (ev : Operand → SV) (nx : Nat) : OpM :=
 match opM0 P κ o ev nx with
 | .fail => chkM nx (opX P o.op (o.op.operands.toList.map ev) nx) []
 | m => m
/- States. -/
structure St where
 tm : Tr SV
 size : Nat
 hp : Tr Chunk
 nx : Nat
 m : Nat
 dirty : List Nat
 sp : Bool
 rd : Option Nat
def St.tmp (s : St) (t : Nat) : SV := match s.tm.get t with
 | some v => v
 | none => .junk
def St.ev (s : St) : Operand → SV
 | .tmp t => s.tmp t
 | .const v => ofValue v
 | .func f => .fn (.func f) [] []
 | .global g => .gp g 0
def St.put (s : St) : Option Nat → SV → St
 | none, _ => s
 | some d, v => { s with tm := s.tm.set 14 d (some v) }
def upsTr : List (Nat × Option Chunk) → Tr Chunk → Tr Chunk
 | [], h => h
 | (x, c) :: l, h => upsTr l (h.set 20 x c)
def addDirty (m : Nat) : List (Nat × Option Chunk) → List Nat → List Nat
 | [], d => d
 | (x, _) :: l, d => addDirty m l (bif Nat.blt x m && !memN x d then x :: d else d)
def St.upd (s : St) (ups : List (Nat × Option Chunk)) (nx : Nat) : St :=
 { s with hp := upsTr ups s.hp, nx := nx, dirty := addDirty s.m ups s.dirty }
structure Foot where
 i : Nat
 reads : List Nat
 writes : List Nat
def overlap : List Nat → List Nat → Bool
 | [], _ => false
 | x :: l, m => memN x m || overlap l m
def tmpsOf : List Operand → List Nat
 | [] => []
 | .tmp t :: l => t :: tmpsOf l
 | _ :: l => tmpsOf l
def apartF (a b : Foot) : Bool := !overlap a.writes b.writes && !overlap a.writes b.reads && !overlap a.reads b.writes
def bef1 (bs : List Nat) (o : Oper) : Nat := o.after.toList.foldl (fun s e => bif Region.binds .any e then s ||| 2 ^ e.on ||| bs.getD e.on 0 else s) 0
def befAll : List Oper → List Nat → List Nat
 | [], bs => bs
 | o :: os, bs => befAll os (bs ++ [bef1 bs o])
def footsOk (bs : List Nat) : List Foot → Bool
 | [] => true
 | f :: l => l.all (fun g => (bs.getD f.i 0).testBit g.i || apartF f g) && footsOk bs l
def apartT (all : List Oper) (x y : Oper) : Bool :=
 let looks (o : Oper) : List Nat := (match o.guard with
  | some (g, _) => match nth? all g with
   | some og => match og.dst with
    | some d => [d]
    | none => []
   | none => []
  | none => []) ++ tmpsOf o.op.operands.toList
 (match x.dst with
  | some d => !memN d (looks y) && (match y.dst with
   | some e => !Nat.beq d e
   | none => true)
  | none => true) &&
 (match y.dst with
  | some d => !memN d (looks x)
  | none => true)
def staticRow (all : List Oper) (b : Nat) (o : Oper) : List Oper → Nat → Bool
 | [], _ => true
 | p :: l, i => (b.testBit i || apartT all p o) && staticRow all b o l (i + 1)
def staticOk (all : List Oper) (bs : List Nat) : List Oper → List Oper → Nat → Bool
 | _, [], _ => true
 | pre, o :: os, j =>
  staticRow all (bs.getD j 0) o pre 0 && o.after.toList.all (fun e => !Region.binds .any e || Nat.blt e.on j) &&
   (match o.guard with
    | some (g, _) => (bs.getD j 0).testBit g
    | none => true) && staticOk all bs (pre ++ [o]) os (j + 1)
section
variable (P : Program) (κ : Nat → Option CSumm)
def dstOk (s : St) : Option Nat → Bool
 | none => true
 | some d => Nat.blt d s.size
/- Without branching: where nothing is written, both sides of a guard are reckoned. -/
abbrev Chain := List (Nat × Bool)
def chainOf : List (Nat × Chain) → Nat → Option Chain
 | [], _ => none
 | (t, c) :: l, x => bif Nat.beq t x then some c else chainOf l x
def eqChain : Chain → Chain → Bool
 | [], [] => true
 | (a, b) :: l, (c, d) :: m => Nat.beq a c && (b == d) && eqChain l m
 | _, _ => false
def endsIn (a : Chain) : Chain → Bool
 | [] => eqChain a []
 | p :: l => eqChain a (p :: l) || endsIn a l
def underOk (env : List (Nat × Chain)) (L : Chain) : List Operand → Bool
 | [] => true
 | .tmp t :: l => (match chainOf env t with
  | some c => endsIn c L
  | none => true) && underOk env L l
 | _ :: l => underOk env L l
def opUnder (env : List (Nat × Chain)) (L : Chain) (o : Op) : Bool :=
 match o with
 | .pick (.tmp c) a b => underOk env L [.tmp c] && underOk env ((c, true) :: L) [a] && underOk env ((c, false) :: L) [b]
 | o => underOk env L o.operands.toList
def mergeSV (t : Bool) : SV → SV → Option SV
 | .bool x, .bool y => some (.bool (bif t then x else y))
 | .int k x, .int k' y => bif ikEq k k' then some (.int k (bif t then x else y)) else none
 | .str x, .str y => some (.str (bif t then x else y))
 | _, _ => none
def mspec (h : Tr Chunk) (nx : Nat) : OpM → Option SV
 | .done r ups nx' => match ups with
  | [] => bif Nat.beq nx' nx then some r else none
  | _ => none
 | .get x f => match h.get x with
  | some c => mspec h nx (f c)
  | none => none
 | _ => none
def specOp (P : Program) (κ : Nat → Option CSumm) (o : Oper) (s : St) : Option SV :=
 match o.op with
 | .pick c a b => match s.ev c with
  | .bool t => mergeSV t (s.ev a) (s.ev b)
  | _ => none
 | _ => mspec s.hp s.nx (opM P κ o s.ev s.nx)
def specDst (env : List (Nat × Chain)) (s : St) : Option Nat → Bool
 | none => true
 | some d => Nat.blt d s.size && (match chainOf env d with
  | some _ => false
  | none => true)
def specChain (all : List Oper) (env : List (Nat × Chain)) (s : St) : Option (Nat × Bool) → Option Chain
 | none => some []
 | some (j, w) => match nth? all j with
  | some oj => match oj.dst with
   | some d => match chainOf env d, s.tmp d with
    | some c, .bool _ => bif Nat.blt d s.size then some ((d, w) :: c) else none
    | _, _ => none
   | none => none
  | none => none
def envPut (env : List (Nat × Chain)) (L : Chain) : Option Nat → List (Nat × Chain)
 | none => env
 | some d => (d, L) :: env
def specC (all : List Oper) : List Oper → List (Nat × Chain) → St → Option (List (Nat × Chain) × St)
 | [], env, s => some (env, s)
 | o :: os, env, s =>
  match specChain all env s o.guard with
  | some L => bif specDst env s o.dst && opUnder env L o.op then
    match specOp P κ o s with
    | some r => specC all os (envPut env L o.dst) (s.put o.dst r)
    | none => none
   else none
  | none => none
def forget : List (Nat × Chain) → St → St
 | [], s => s
 | (_, []) :: l, s => forget l s
 | (t, _ :: _) :: l, s => forget l (s.put (some t) .junk)
def hasGuard : List Oper → Bool
 | [] => false
 | o :: l => (match o.guard with
  | some _ => true
  | none => false) || hasGuard l
def specRun (ops : List Oper) (draw : Bool) (s : St) : Option St :=
 bif s.sp && hasGuard ops && (!draw || staticOk ops (befAll ops []) [] ops 0) then
  match specC P κ ops ops [] s with
  | some (env, s') => some (forget env s')
  | none => none
 else none
end
/- Carrying out, in the style of continuations: each open test stands at the head. -/
section
variable {R : Type} (fl : R)
def interpR (h : Tr Chunk) (k : SV → List (Nat × Option Chunk) → Nat → List Nat → R) : OpM → List Nat → R
 | .done r ups nx, rs => k r ups nx rs
 | .get x f, rs => match h.get x with
  | some c => interpR h k (f c) (rs ++ [x])
  | none => fl
 | .ite b t e, rs => bif b then interpR h k t rs else interpR h k e rs
 | .fail, _ => fl
def guardR (all : List Oper) (s : St) (k : St → Bool → R) : Option (Nat × Bool) → R
 | none => k s true
 | some (j, want) =>
  match nth? all j with
  | some oj => match oj.dst with
   | some d => match s.tmp d with
    | .bool b =>
     bif Nat.blt d s.size then
      bif b then k (s.put (some d) (.bool true)) want else k (s.put (some d) (.bool false)) (!want)
     else fl
    | .tup [] => bif Nat.blt d s.size then k s false else fl
    | _ => fl
   | none => fl
  | none => fl
def argsTr : List SV → Nat → Tr SV → Tr SV
 | [], _, t => t
 | v :: vs, i, t => argsTr vs (i + 1) (t.set 14 i (some v))
def lowB (m : Nat) : List Nat → Bool
 | [] => true
 | x :: l => Nat.blt x m && lowB m l
def listOfTr (s : St) : Nat → Nat → List SV
 | 0, _ => []
 | n + 1, i => s.tmp i :: listOfTr s n (i + 1)
def setPs : List Nat → List SV → Tr SV → Tr SV
 | p :: ps, v :: vs, t => setPs ps vs (t.set 14 p (some v))
 | _, _, t => t
def endSt : Ex → LS
 | .normal => .ready
 | e => .done e
def isNormal : Ex → Bool
 | .normal => true
 | _ => false
variable (P : Program) (κ : Nat → Option CSumm) (ι : Nat → Bool)
def resultS (s : St) : ResultVar → Option SV
 | .tmp t => bif Nat.blt t s.size then some (s.tmp t) else none
 | .cell p t => match s.tmp p with
  | .ptr x off => match s.hp.get x with
   | some (.cells _ vs) => partS P t vs off
   | _ => none
  | _ => none
def resultsS (s : St) : List ResultVar → Option (List SV)
 | [] => some []
 | r :: rs => match resultS P s r, resultsS s rs with
  | some v, some vs => some (v :: vs)
  | _, _ => none
def oneOrTup : List SV → SV
 | [v] => v
 | vs => .tup vs
abbrev Rcr (R : Type) := Code → St → (Ex → St → R) → R
def callIn (rec : Rcr R) (f : Nat) (args : List SV) (s : St) (k : SV → St → R) : R :=
 match P.funcs[f]? with
 | some fn => match fn.body with
  | some c =>
   bif Nat.ble args.length fn.ntmps && Nat.blt fn.ntmps 16000 && !(fn.name == "runtime.NumGoroutine") then
    rec c { s with tm := argsTr args 0 .lf, size := fn.ntmps, rd := none } fun e s' =>
     match e with
     | .exit _ => fl
     | _ => match resultsS P s' fn.results.toList with
      | some vs => k (oneOrTup vs) { s' with tm := s.tm, size := s.size, rd := s.rd }
      | none => fl
   else fl
  | none => fl
 | none => fl
def roundIn (rec : Rcr R) (x : Nat) (args : List SV) (s : St) (k : Bool → St → R) : R :=
 match s.hp.get x with
 | some (.loopr .ready vs ps asg bdy) =>
  bif Nat.beq ps.size args.length && lowB vs.length ps.toList && Nat.blt vs.length 16000 then
   rec asg { s with tm := setPs ps.toList args (argsTr vs 0 .lf), size := vs.length, rd := some x } fun e s1 =>
    match e with
    | .normal => match s1.hp.get x with
     | some (.loopr .ready vs1 ps1 asg1 bdy1) =>
      rec bdy (s1.upd [(x, some (.loopr .busy vs1 ps1 asg1 bdy1))] s1.nx) fun e s2 =>
       match s2.hp.get x with
       | some (.loopr .busy vs2 ps2 asg2 bdy2) => k (isNormal e) { s2.upd [(x, some (.loopr (endSt e) vs2 ps2 asg2 bdy2))] s2.nx with tm := s.tm, size := s.size, rd := s.rd }
       | _ => fl
     | _ => fl
    | _ => fl
  else fl
 | _ => fl
inductive CallKind where
 | plain
 | fn (f : Nat) (args : List SV)
 | yl (x : Nat) (args : List SV)
def callKind (o : Oper) (s : St) : CallKind :=
 match o.op with
 | .call c => match c.callee with
  | .value f => match s.ev f with
   | .yl x => .yl x (c.args.toList.map s.ev)
   | .fn (.func g) first caps => bif ι g then .fn g (first ++ (c.args.toList.map s.ev ++ caps)) else .plain
   | _ => .plain
  | .invoke r m => match s.ev r with
   | .iface t v => match methodS P t m with
    | some g => bif ι g then .fn g (v :: c.args.toList.map s.ev) else .plain
    | none => .plain
   | _ => .plain
  | _ => .plain
 | _ => .plain
def stepR (rec : Rcr R) (o : Oper) (s : St) (k : St → R) : R :=
 match callKind P ι o s with
 | .plain => interpR fl s.hp (fun r ups nx _ => bif Nat.blt nx 1000000 then k ((s.upd ups nx).put o.dst r) else fl) (opM P κ o s.ev s.nx) []
 | .fn f args => callIn fl P rec f args s fun r s' => k (s'.put o.dst r)
 | .yl x args => roundIn fl rec x args s fun b s' => k (s'.put o.dst (.bool b))
def opsQ (rec : Rcr R) (all : List Oper) (k : St → R) : List Oper → St → R
 | [], s => k s
 | o :: os, s =>
  bif dstOk s o.dst then
   guardR fl all s (fun s go =>
    bif go then stepR fl P κ ι rec o s (fun s => opsQ rec all k os s)
    else opsQ rec all k os (s.put o.dst (.tup []))) o.guard
  else fl
def opsR (all : List Oper) (k : St → List Foot → R) : List Oper → Nat → St → List Foot → R
 | [], _, s, acc => k s acc
 | o :: os, i, s, acc =>
  bif dstOk s o.dst then
   guardR fl all s (fun s go =>
    bif go then interpR fl s.hp (fun r ups nx rs => bif Nat.blt nx 1000000 then opsR all k os (i + 1) ((s.upd ups nx).put o.dst r) (⟨i, rs, ups.map (·.1)⟩ :: acc) else fl) (opM P κ o s.ev s.nx) []
    else opsR all k os (i + 1) (s.put o.dst (.tup [])) acc) o.guard
  else fl
def regionB (rec : Rcr R) (ops : Array Oper) (draw : Bool) (k : St → R) (s : St) : R :=
 bif draw then
  bif staticOk ops.toList (befAll ops.toList []) [] ops.toList 0 then
   opsR fl P κ ops.toList (fun s acc => bif footsOk (befAll ops.toList []) acc then k s else fl) ops.toList 0 s []
  else fl
 else opsQ fl P κ ι rec ops.toList k ops.toList s
def regionC (rec : Rcr R) (ops : Array Oper) (draw : Bool) (k : St → R) (s : St) : R :=
 match specRun P κ ops.toList draw s with
 | some s' => k s'
 | none => regionB fl P κ ι rec ops draw k s
def rdOk (s : St) : Bool :=
 match s.rd with
 | none => true
 | some y => match s.hp.get y with
  | some (.loopr _ _ _ _ _) => true
  | _ => false
def execC (rec : Rcr R) : Rcr R
 | .skip, s, k => k .normal s
 | .region _ ops draw, s, k => regionC fl P κ ι rec ops draw (k .normal) s
 | .seq a b, s, k => execC rec a s (fun e s => match e with
  | .normal => execC rec b s k
  | e => k e s)
 | .cond c t e, s, k =>
  match s.ev c with
  | .bool b => bif b then execC rec t s k else execC rec e s k
  | _ => fl
 | .block id c, s, k => execC rec c s (fun e s => match e with
  | .exit j => bif Nat.beq j id then k .normal s else k (.exit j) s
  | e => k e s)
 | .loop c, s, k => execC rec c s (fun e s => match e with
  | .normal => rec (.loop c) s k
  | e => k e s)
 | .scope c, s, k => execC rec c s k
 | .exit id, s, k => k (.exit id) s
 | .label _, s, k => k .normal s
 | .ret, s, k => k .ret s
 | .rangeFunc g ps asg bdy, s, k =>
  match s.ev g with
  | .fn (.func f) first caps =>
   bif rdOk s && Nat.blt (s.nx + 1) 1000000 then
    callIn fl P rec f (first ++ ([.yl s.nx] ++ caps)) (s.upd [(s.nx, some (.loopr .ready (listOfTr s s.size 0) ps asg bdy))] (s.nx + 1)) fun _ s1 =>
     match s1.hp.get s.nx with
     | some (.loopr .ready _ _ _ _) => k .normal (s1.upd [(s.nx, none)] s1.nx)
     | some (.loopr (.done e) _ _ _ _) => k e (s1.upd [(s.nx, none)] s1.nx)
     | _ => fl
   else fl
  | _ => fl
 | _, _, _ => fl
def exec : Nat → Rcr R
 | 0, _, _, _ => fl
 | n + 1, c, s, k => execC fl P κ ι (exec n) c s k
end
/- Loops by what is known of them: 'ins': the temporaries that a round is told, 'outs': those that are told behind the loop, 'keep': those that no round touches. -/
structure LEnt where
 ins : List Nat
 outs : List Nat
 keep : List Nat
 size : Nat
 code : Code
 s : CSumm
abbrev LTab := String → Option LEnt
def exOf : Int → Ex
 | .ofNat 0 => .normal
 | .ofNat 1 => .ret
 | .ofNat (n + 2) => .exit n
 | .negSucc _ => .ret
def codeEx : Ex → Int
 | .normal => 0
 | .ret => 1
 | .exit n => ((n + 2 : Nat) : Int)
def keepT : List Nat → St → Tr SV → Tr SV
 | [], _, t => t
 | x :: l, s, t => keepT l s (t.set 14 x (some (s.tmp x)))
def fillC (T : LTab) : Code → Code
 | .seq a b => .seq (fillC T a) (fillC T b)
 | .cond c a b => .cond c (fillC T a) (fillC T b)
 | .block id c => .block id (fillC T c)
 | .loop c => .loop (fillC T c)
 | .scope c => .scope (fillC T c)
 | .refuse w => match T w with
  | some e => .loop e.code
  | none => .refuse w
 | c => c
def firstReg : Code → Option Nat
 | .region id _ _ => some id
 | .seq a b => match firstReg a with
  | some r => some r
  | none => firstReg b
 | .cond _ a b => match firstReg a with
  | some r => some r
  | none => firstReg b
 | .block _ c => firstReg c
 | .loop c => firstReg c
 | .scope c => firstReg c
 | _ => none
def markOf : List (Nat × String) → Nat → Option String
 | [], _ => none
 | (r, w) :: l, x => bif Nat.beq r x then some w else markOf l x
def markC (ks : List (Nat × String)) : Code → Code
 | .seq a b => .seq (markC ks a) (markC ks b)
 | .cond c a b => .cond c (markC ks a) (markC ks b)
 | .block id c => .block id (markC ks c)
 | .scope c => .scope (markC ks c)
 | .loop c => match firstReg c with
  | some r => match markOf ks r with
   | some w => .refuse w
   | none => .loop (markC ks c)
  | none => .loop (markC ks c)
 | c => c
def loopAt (r : Nat) : Code → Option Code
 | .seq a b => match loopAt r a with
  | some c => some c
  | none => loopAt r b
 | .cond _ a b => match loopAt r a with
  | some c => some c
  | none => loopAt r b
 | .block _ c => loopAt r c
 | .scope c => loopAt r c
 | .loop c => match firstReg c with
  | some x => bif Nat.beq x r then some c else loopAt r c
  | none => loopAt r c
 | _ => none
section
variable {R : Type} (fl : R) (P : Program) (κ : Nat → Option CSumm) (ι : Nat → Bool) (T : LTab)
def afterL (e : LEnt) (outs : List SV) (ups : List (Nat × Option Chunk)) (nx : Nat) (s : St) : St := { s.upd ups nx with tm := setPs e.outs outs (keepT e.keep s .lf) }
def loopK (e : LEnt) (s : St) (k : Ex → St → R) : R :=
 match s.rd with
 | some _ => fl
 | none =>
  bif Nat.beq s.size e.size && lowB s.size e.ins && lowB s.size e.outs && lowB s.size e.keep then
   interpR fl s.hp (fun r ups nx _ => bif Nat.blt nx 1000000 then
    (match r with
     | .tup (.int _ c :: outs) => bif Nat.beq outs.length e.outs.length then k (exOf c) (afterL e outs ups nx s) else fl
     | _ => fl) else fl) (callS e.s (e.ins.map s.tmp) s.nx) []
  else fl
def execCL (recL rec : Rcr R) : Rcr R
 | .skip, s, k => k .normal s
 | .region _ ops draw, s, k => regionC fl P κ ι rec ops draw (k .normal) s
 | .seq a b, s, k => execCL recL rec a s (fun e s => match e with
  | .normal => execCL recL rec b s k
  | e => k e s)
 | .cond c t e, s, k =>
  match s.ev c with
  | .bool b => bif b then execCL recL rec t s k else execCL recL rec e s k
  | _ => fl
 | .block id c, s, k => execCL recL rec c s (fun e s => match e with
  | .exit j => bif Nat.beq j id then k .normal s else k (.exit j) s
  | e => k e s)
 | .loop c, s, k => execCL recL rec c s (fun e s => match e with
  | .normal => recL (.loop c) s k
  | e => k e s)
 | .scope c, s, k => execCL recL rec c s k
 | .exit id, s, k => k (.exit id) s
 | .label _, s, k => k .normal s
 | .ret, s, k => k .ret s
 | .rangeFunc g ps asg bdy, s, k => execC fl P κ ι rec (.rangeFunc g ps asg bdy) s k
 | .refuse w, s, k => match T w with
  | some e => loopK fl e s k
  | none => fl
 | _, _, _ => fl
def execL : Nat → Rcr R
 | 0, _, _, _ => fl
 | n + 1, c, s, k => execCL fl P κ ι T (execL n) (exec fl P κ ι n) c s k
end
/- A function's body. -/
def heapTr : HpL → Tr Chunk → Tr Chunk
 | [], t => t
 | (x, c) :: l, t => heapTr l (t.set 20 x (some c))
def canonB : HpL → Nat → Bool
 | [], _ => true
 | (x, _) :: l, i => Nat.beq x i && canonB l (i + 1)
def closedB (m : Nat) : HpL → Bool
 | [] => true
 | (_, c) :: l => lowB m (namesC c) && closedB m l
def initSt (sp : Bool) (f : Func) (args : List SV) (H : HpL) : St :=
 { tm := argsTr args 0 .lf, size := f.ntmps, hp := heapTr H .lf, nx := H.length, m := H.length, dirty := [], sp := sp, rd := none }
def reachNew (h : Tr Chunk) (m : Nat) : Nat → List Nat → List Nat → Option (List Nat)
 | 0, _, _ => none
 | _ + 1, [], acc => some acc
 | d + 1, x :: todo, acc =>
  bif Nat.blt x m || memN x acc then reachNew h m d todo acc
  else match h.get x with
   | some c => reachNew h m d (namesC c ++ todo) (acc ++ [x])
   | none => none
def dirtyNames (h : Tr Chunk) : List Nat → List Nat
 | [] => []
 | x :: l => match h.get x with
  | some c => namesC c ++ dirtyNames h l
  | none => dirtyNames h l
def outName (ns : List Nat) (m : Nat) (x : Nat) : Nat := bif Nat.blt x m then x else m + idxN ns x
def outOld (h : Tr Chunk) (f : Nat → Nat) : List Nat → List (Nat × Option Chunk)
 | [] => []
 | x :: l => (x, match h.get x with
  | some c => some (renC f c)
  | none => none) :: outOld h f l
def outNew (h : Tr Chunk) (f : Nat → Nat) : List Nat → List (Nat × Option Chunk)
 | [] => []
 | x :: l => match h.get x with
  | some c => (f x, some (renC f c)) :: outNew h f l
  | none => outNew h f l
def finishC (P : Program) (f : Func) (s : St) : CTree :=
 match resultsS P s f.results.toList with
 | some vs =>
  match reachNew s.hp s.m 2000 (namesS (oneOrTup vs) ++ dirtyNames s.hp s.dirty) [] with
  | some ns => .ret (renS (outName ns s.m) (oneOrTup vs)) (outOld s.hp (outName ns s.m) s.dirty ++ outNew s.hp (outName ns s.m) ns)
  | none => .fail
 | none => .fail
def finishV (v : SV) (s : St) : CTree :=
 match reachNew s.hp s.m 2000 (namesS v ++ dirtyNames s.hp s.dirty) [] with
 | some ns => .ret (renS (outName ns s.m) v) (outOld s.hp (outName ns s.m) s.dirty ++ outNew s.hp (outName ns s.m) ns)
 | none => .fail
def noOpqU : List (Nat × Option Chunk) → Bool
 | [] => true
 | (_, some c) :: l => noOpqC c && noOpqU l
 | (_, none) :: l => noOpqU l
def noOpqH : HpL → Bool
 | [] => true
 | (_, c) :: l => noOpqC c && noOpqH l
def keepOk (s : St) : List Nat → Bool
 | [] => true
 | t :: l => (match s.tmp t with
  | .opq n => Nat.beq n t
  | _ => false) && keepOk s l
def finishL (e : LEnt) (ex : Ex) (s : St) : CTree :=
 bif keepOk s e.keep && noOpqL (e.outs.map s.tmp) then
  match finishV (.tup (.int .i64 (codeEx ex) :: e.outs.map s.tmp)) s with
  | .ret v ups => bif noOpqU ups then .ret v ups else .fail
  | _ => .fail
 else .fail
def keepI : List Nat → Tr SV → Tr SV
 | [], t => t
 | x :: l, t => keepI l (t.set 14 x (some (.opq x)))
def loopSt (sp : Bool) (e : LEnt) (args : List SV) (H : HpL) : St :=
 { tm := setPs e.ins args (keepI e.keep .lf), size := e.size, hp := heapTr H .lf, nx := H.length, m := H.length, dirty := [], sp := sp, rd := none }
def loopOnce (P : Program) (κ : Nat → Option CSumm) (ι : Nat → Bool) (T : LTab) (sp : Bool) (fuel : Nat) (e e' : LEnt) (c : Code) (args : List SV) (H : HpL) : CTree :=
 bif canonB H 0 && closedB H.length H && Nat.beq args.length e.ins.length && Nat.blt e.size 16000 && Nat.blt H.length 1000000 && lowB e.size e.ins && lowB e.size e.keep && lowB e.size e.outs && noOpqL args && noOpqH H && lowB H.length (namesL args) then
  execL .fail P κ ι T fuel c (loopSt sp e args H) (fun ex s => match ex with
   | .normal => loopK .fail e' s (finishL e)
   | ex => finishL e ex s)
 else .fail
def bodyCL (P : Program) (κ : Nat → Option CSumm) (ι : Nat → Bool) (T : LTab) (sp : Bool) (fuel : Nat) (f : Func) (c : Code) (args : List SV) (H : HpL) : CTree :=
 bif canonB H 0 && closedB H.length H && Nat.ble args.length f.ntmps && Nat.blt f.ntmps 16000 && Nat.blt H.length 1000000 then
  execL .fail P κ ι T fuel c (initSt sp f args H) (fun e s => match e with
   | .exit _ => .fail
   | _ => finishC P f s)
 else .fail
def bodyC (P : Program) (κ : Nat → Option CSumm) (ι : Nat → Bool) (sp : Bool) (fuel : Nat) (f : Func) (args : List SV) (H : HpL) : CTree :=
 match f.body with
 | some c =>
  bif canonB H 0 && closedB H.length H && Nat.ble args.length f.ntmps && Nat.blt f.ntmps 16000 && Nat.blt H.length 1000000 then
   exec .fail P κ ι fuel c (initSt sp f args H) (fun e s => match e with
    | .exit _ => .fail
    | _ => finishC P f s)
  else .fail
 | none => .fail
def crun : CTree → Option (SV × List (Nat × Option Chunk))
 | .ret v ups => some (v, ups)
 | .ite b t e => if b then crun t else crun e
 | .fail => none
end Go.Am
/- The abstract machine: how symbolic values and heaps stand for the model's. -/
namespace Go.Am
def enc (a b : Nat) : Nat := 2 ^ a * (2 * b + 1)
theorem enc_inj : ∀ {a b c d : Nat}, enc a b = enc c d → a = c ∧ b = d
 | 0, b, 0, d, h => by simp [enc] at h; exact ⟨rfl, by omega⟩
 | 0, b, c + 1, d, h => by
  simp only [enc, Nat.pow_zero, Nat.one_mul, Nat.pow_succ] at h
  have : 2 ^ c * 2 * (2 * d + 1) = 2 * (2 ^ c * (2 * d + 1)) := by rw [Nat.mul_comm (2 ^ c) 2, Nat.mul_assoc]
  omega
 | a + 1, b, 0, d, h => by
  simp only [enc, Nat.pow_zero, Nat.one_mul, Nat.pow_succ] at h
  have : 2 ^ a * 2 * (2 * b + 1) = 2 * (2 ^ a * (2 * b + 1)) := by rw [Nat.mul_comm (2 ^ a) 2, Nat.mul_assoc]
  omega
 | a + 1, b, c + 1, d, h => by
  have e1 : enc (a + 1) b = 2 * enc a b := by simp only [enc, Nat.pow_succ]; rw [Nat.mul_comm (2 ^ a) 2, Nat.mul_assoc]
  have e2 : enc (c + 1) d = 2 * enc c d := by simp only [enc, Nat.pow_succ]; rw [Nat.mul_comm (2 ^ c) 2, Nat.mul_assoc]
  rw [e1, e2] at h
  obtain ⟨h1, h2⟩ := enc_inj (a := a) (b := b) (c := c) (d := d) (by omega)
  exact ⟨by omega, h2⟩
abbrev Th := Nat → Option (Nat × Nat)
def noTh : Th := fun _ => none
def om0 : Nat → Value := fun _ => undef
inductive VRel' (P : Program) (w : World) (Im : Nat → Prop) : (Nat → Value) → Th → SV → Value → Prop
 | junk {ω : Nat → Value} {θ : Th} {u : Value} : VRel' P w Im ω θ .junk u
 | opq {ω : Nat → Value} {θ : Th} {n : Nat} : VRel' P w Im ω θ (.opq n) (ω n)
 | bool {ω : Nat → Value} {θ : Th} {b : Bool} : VRel' P w Im ω θ (.bool b) (.bool b)
 | int {ω : Nat → Value} {θ : Th} {k : IntKind} {n : Int} : VRel' P w Im ω θ (.int k n) (.int k n)
 | str {ω : Nat → Value} {θ : Th} {l : List UInt8} {s : ByteArray} : s.data.toList = l → VRel' P w Im ω θ (.str l) (.string s)
 | ptr {ω : Nat → Value} {θ : Th} {x off b N : Nat} : θ x = some (b, N) → VRel' P w Im ω θ (.ptr x off) (.pointer (some ⟨b, off, none⟩))
 | nilp {ω : Nat → Value} {θ : Th} : VRel' P w Im ω θ .nilp (.pointer none)
 | pel {ω : Nat → Value} {θ : Th} {v : SV} {off : Nat} {u : Value} {a base : Nat} : VRel' P w Im om0 noTh v u → Im a →
   (∀ (d : Nat) (c : Value), u.cells[d]? = some c → w.cell? ⟨a, base + d, none⟩ = some c) → VRel' P w Im ω θ (.pel v off) (.pointer (some ⟨a, base + off, none⟩))
 | sl {ω : Nat → Value} {θ : Th} {x sz off len b N cap : Nat} : θ x = some (b, N) → off + cap * sz ≤ N → len ≤ cap →
   VRel' P w Im ω θ (.sl x sz off len) (.slice (some ⟨b, off, none⟩) len cap)
 | slnil {ω : Nat → Value} {θ : Th} {x sz : Nat} : VRel' P w Im ω θ (.sl x sz 0 0) (.slice none 0 0)
 | nils {ω : Nat → Value} {θ : Th} : VRel' P w Im ω θ .nils (.slice none 0 0)
 | psl {ω : Nat → Value} {θ : Th} {e : TypeId} {es : List SV} {p : Option Addr} {n cap : Nat} (us : Nat → Value) : es.length = n → n ≤ cap ∧ (p = none → cap = 0) → (∀ v ∈ es, expand P e v = v) →
   (∀ (i : Nat) (v : SV), es[i]? = some v → VRel' P w Im om0 noTh v (us i)) →
   (n ≠ 0 → ∃ a off, p = some ⟨a, off, none⟩ ∧ Im a ∧ ∀ i < n, (us i).cells.size = P.cellsOf e ∧
    ∀ (d : Nat) (c : Value), (us i).cells[d]? = some c → w.cell? ⟨a, off + i * P.cellsOf e + d, none⟩ = some c) →
   VRel' P w Im ω θ (.psl e es) (.slice p n cap)
 | pnn {ω : Nat → Value} {θ : Th} {e : TypeId} {es : List SV} {a : Addr} {n cap : Nat} : VRel' P w Im ω θ (.psl e es) (.slice (some a) n cap) → VRel' P w Im ω θ (.pnn e es) (.slice (some a) n cap)
 | emp {ω : Nat → Value} {θ : Th} {p : Option Addr} : VRel' P w Im ω θ .emp (.slice p 0 0)
 | qs {ω : Nat → Value} {θ : Th} {x sz l n b N cap : Nat} : θ x = some (b, N) → (l + cap) * sz ≤ N → n ≤ cap → VRel' P w Im ω θ (.qs x sz l n) (.slice (some ⟨b, l * sz, none⟩) n cap)
 | qsnil {ω : Nat → Value} {θ : Th} {x sz l n : Nat} {p : Option Addr} : n = 0 → VRel' P w Im ω θ (.qs x sz l n) (.slice p 0 0)
 | qp {ω : Nat → Value} {θ : Th} {x sz i off b N : Nat} : θ x = some (b, N) → VRel' P w Im ω θ (.qp x sz i off) (.pointer (some ⟨b, i * sz + off, none⟩))
 | qo {ω : Nat → Value} {θ : Th} {x sz n b off cap : Nat} : θ x = some (b, enc off cap) → n ≤ cap → VRel' P w Im ω θ (.qo x sz n) (.slice (some ⟨b, off, none⟩) n cap)
 | qonil {ω : Nat → Value} {θ : Th} {x sz n : Nat} {p : Option Addr} : n = 0 → VRel' P w Im ω θ (.qo x sz n) (.slice p 0 0)
 | qop {ω : Nat → Value} {θ : Th} {x sz i o b off cap : Nat} : θ x = some (b, enc off cap) → VRel' P w Im ω θ (.qop x sz i o) (.pointer (some ⟨b, off + i * sz + o, none⟩))
 | mp {ω : Nat → Value} {θ : Th} {x b N : Nat} : θ x = some (b, N) → VRel' P w Im ω θ (.mp x) (.map (some b))
 | nilm {ω : Nat → Value} {θ : Th} : VRel' P w Im ω θ .nilm (.map none)
 | yl {ω : Nat → Value} {θ : Th} {x b N : Nat} : θ x = some (b, N) → VRel' P w Im ω θ (.yl x) (.func (.yield b) #[] #[])
 | fn {ω : Nat → Value} {θ : Th} {f : Fn} {as bs : List SV} {us vs : Array Value} : as.length = us.size → bs.length = vs.size →
   (∀ (i : Nat) (v : SV) (u : Value), as[i]? = some v → us[i]? = some u → VRel' P w Im ω θ v u) → (∀ (i : Nat) (v : SV) (u : Value), bs[i]? = some v → vs[i]? = some u → VRel' P w Im ω θ v u) →
   VRel' P w Im ω θ (.fn f as bs) (.func f us vs)
 | nilf {ω : Nat → Value} {θ : Th} : VRel' P w Im ω θ .nilf .nilFunc
 | iface {ω : Nat → Value} {θ : Th} {t : TypeId} {v : SV} {u : Value} : VRel' P w Im ω θ v u → VRel' P w Im ω θ (.iface t v) (.iface t u)
 | nili {ω : Nat → Value} {θ : Th} : VRel' P w Im ω θ .nili .nilIface
 | agg {ω : Nat → Value} {θ : Th} {cs : List SV} {us : Array Value} : cs.length = us.size → (∀ (i : Nat) (v : SV) (u : Value), cs[i]? = some v → us[i]? = some u → VRel' P w Im ω θ v u) →
   VRel' P w Im ω θ (.agg cs) (.agg us)
 | tup {ω : Nat → Value} {θ : Th} {cs : List SV} {us : Array Value} : cs.length = us.size → (∀ (i : Nat) (v : SV) (u : Value), cs[i]? = some v → us[i]? = some u → VRel' P w Im ω θ v u) →
   VRel' P w Im ω θ (.tup cs) (.tuple us)
 | gp {ω : Nat → Value} {θ : Th} {g off : Nat} : VRel' P w Im ω θ (.gp g off) (.pointer (some ⟨g, off, none⟩))
abbrev VRel (P : Program) (ω : Nat → Value) (w : World) (Im : Nat → Prop) (θ : Th) (v : SV) (u : Value) : Prop := VRel' P w Im ω θ v u
structure LRel (P : Program) (ω : Nat → Value) (w : World) (Im : Nat → Prop) (θ : Th) (cs : List SV) (us : List Value) : Prop where
 len : cs.length = us.length
 at_ : ∀ (i : Nat) (v : SV) (u : Value), cs[i]? = some v → us[i]? = some u → VRel P ω w Im θ v u
theorem VRel.mono {P : Program} {w w' : World} {Im Im' : Nat → Prop} (hI : ∀ b, Im b → Im' b ∧ w'.heap[b]? = w.heap[b]?) :
  ∀ {ω : Nat → Value} {θ : Th} {v : SV} {u : Value}, VRel P ω w Im θ v u → ∀ {θ' : Th}, (∀ x p, θ x = some p → θ' x = some p) → VRel P ω w' Im' θ' v u := by
 have hcell : ∀ b o, Im b → w'.cell? ⟨b, o, none⟩ = w.cell? ⟨b, o, none⟩ := by
  intro b o hb
  simp only [World.cell?, (hI b hb).2]
 have hn : ∀ x p, noTh x = some p → noTh x = some p := fun _ _ h => h
 intro ω θ v u h
 induction h with
 | junk => intro θ' _; exact .junk
 | opq => intro θ' _; exact .opq
 | pnn _ ih => intro θ' hθ; exact .pnn (ih hθ)
 | emp => intro θ' _; exact .emp
 | qs h1 h2 h3 => intro θ' hθ; exact .qs (hθ _ _ h1) h2 h3
 | qsnil h => intro θ' _; exact .qsnil h
 | qp h => intro θ' hθ; exact .qp (hθ _ _ h)
 | qo h1 h2 => intro θ' hθ; exact .qo (hθ _ _ h1) h2
 | qonil h => intro θ' _; exact .qonil h
 | qop h => intro θ' hθ; exact .qop (hθ _ _ h)
 | bool => intro θ' _; exact .bool
 | int => intro θ' _; exact .int
 | str h => intro θ' _; exact .str h
 | ptr h => intro θ' hθ; exact .ptr (hθ _ _ h)
 | nilp => intro θ' _; exact .nilp
 | pel h1 h2 h3 ih =>
  intro θ' hθ
  exact .pel (ih hn) (hI _ h2).1 (fun d c hd => by rw [hcell _ _ h2]; exact h3 d c hd)
 | sl h1 h2 h3 => intro θ' hθ; exact .sl (hθ _ _ h1) h2 h3
 | slnil => intro θ' _; exact .slnil
 | nils => intro θ' _; exact .nils
 | psl us h1 h0 h2 h3 h4 ih =>
  intro θ' hθ
  refine .psl us h1 h0 h2 (fun i v hv => ih i v hv hn) (fun hne => ?_)
  obtain ⟨a, off, hp, ha, hc⟩ := h4 hne
  exact ⟨a, off, hp, (hI _ ha).1, fun i hi => ⟨(hc i hi).1, fun d c hd => by rw [hcell _ _ ha]; exact (hc i hi).2 d c hd⟩⟩
 | mp h => intro θ' hθ; exact .mp (hθ _ _ h)
 | nilm => intro θ' _; exact .nilm
 | yl h => intro θ' hθ; exact .yl (hθ _ _ h)
 | fn h1 h2 _ _ ih1 ih2 => intro θ' hθ; exact .fn h1 h2 (fun i v u a b => ih1 i v u a b hθ) (fun i v u a b => ih2 i v u a b hθ)
 | nilf => intro θ' _; exact .nilf
 | iface _ ih => intro θ' hθ; exact .iface (ih hθ)
 | nili => intro θ' _; exact .nili
 | agg h1 _ ih => intro θ' hθ; exact .agg h1 (fun i v u a b => ih i v u a b hθ)
 | tup h1 _ ih => intro θ' hθ; exact .tup h1 (fun i v u a b => ih i v u a b hθ)
 | gp => intro θ' _; exact .gp
theorem VRel'.mono {P : Program} {w w' : World} {Im Im' : Nat → Prop} {ω : Nat → Value} {θ : Th} {v : SV} {u : Value} (h : VRel' P w Im ω θ v u) (hI : ∀ b, Im b → Im' b ∧ w'.heap[b]? = w.heap[b]?) {θ' : Th} (hθ : ∀ x p, θ x = some p → θ' x = some p) : VRel' P w' Im' ω θ' v u := VRel.mono hI h hθ
theorem noOpqL_at : ∀ {vs : List SV}, noOpqL vs = true → ∀ {i : Nat} {v : SV}, vs[i]? = some v → noOpq v = true
 | [], _, i, v, h => by simp at h
 | w :: vs, hn, i, v, h => by
  simp only [noOpqL, Bool.and_eq_true] at hn
  cases i with
  | zero => simp at h; subst h; exact hn.1
  | succ i => exact noOpqL_at hn.2 (by simpa using h)
theorem VRel.om {P : Program} {ω ω' : Nat → Value} {w : World} {Im : Nat → Prop} {θ : Th} {v : SV} {u : Value} (h : VRel P ω w Im θ v u) (hn : noOpq v = true) : VRel P ω' w Im θ v u := by
 induction h with
 | junk => exact .junk
 | opq => simp [noOpq] at hn
 | pnn h _ => exact .pnn (by cases h with | psl us h1 h0 h2 h3 h4 => exact .psl us h1 h0 h2 h3 h4)
 | emp => exact .emp
 | qs h1 h2 h3 => exact .qs h1 h2 h3
 | qsnil h => exact .qsnil h
 | qp h => exact .qp h
 | qo h1 h2 => exact .qo h1 h2
 | qonil h => exact .qonil h
 | qop h => exact .qop h
 | bool => exact .bool
 | int => exact .int
 | str h => exact .str h
 | ptr h => exact .ptr h
 | nilp => exact .nilp
 | pel h1 h2 h3 _ => exact .pel h1 h2 h3
 | sl h1 h2 h3 => exact .sl h1 h2 h3
 | slnil => exact .slnil
 | nils => exact .nils
 | psl us h1 h0 h2 h3 h4 _ => exact .psl us h1 h0 h2 h3 h4
 | mp h => exact .mp h
 | nilm => exact .nilm
 | yl h => exact .yl h
 | fn h1 h2 _ _ ih1 ih2 =>
  simp only [noOpq, Bool.and_eq_true] at hn
  exact .fn h1 h2 (fun i v u a b => ih1 i v u a b (noOpqL_at hn.1 a)) (fun i v u a b => ih2 i v u a b (noOpqL_at hn.2 a))
 | nilf => exact .nilf
 | iface _ ih => exact .iface (ih (by simpa [noOpq] using hn))
 | nili => exact .nili
 | agg h1 _ ih => exact .agg h1 (fun i v u a b => ih i v u a b (noOpqL_at (by simpa [noOpq] using hn) a))
 | tup h1 _ ih => exact .tup h1 (fun i v u a b => ih i v u a b (noOpqL_at (by simpa [noOpq] using hn) a))
 | gp => exact .gp
def fine (n : Nat) (fr : Nat × Nat) : Prop := ∀ i, i < n → ¬ (fr.1 ≤ i ∧ i < fr.2)
def codeOf : Ex → Option Code
 | .normal => none
 | .exit id => some (.exit id)
 | .ret => some .ret
def stRel : LS → LoopState → Option Code → Prop
 | .ready, st, pe => st = .ready ∧ pe = none
 | .busy, st, pe => st = .busy ∧ pe = none
 | .done e, st, pe => st = .done ∧ pe = codeOf e ∧ pe ≠ none
def keysB (kd : IntKind) (kvs : List (Int × Bool)) : List SV := kvs.map fun p => .int kd p.1
def valsB (kvs : List (Int × Bool)) : List SV := kvs.map fun p => .bool p.2
def SeqR (P : Program) (w : World) (Im : Nat → Prop) (p : Option (Nat × Nat)) (e : TypeId) (es : List SV) : Prop :=
 (es = [] ∧ p = none) ∨ ∃ (b N : Nat) (cs : Array Value) (T : TypeId) (fr : Nat × Nat) (us : Nat → Value), p = some (b, N) ∧ w.heap[b]? = some (.cells cs T fr) ∧ fine cs.size fr ∧
   (cs.size = N ∧ T = e) ∧ es.length * P.cellsOf e ≤ N ∧ (∀ v ∈ es, expand P e v = v) ∧ (∀ (i : Nat) (v : SV), es[i]? = some v → VRel P om0 w Im noTh v (us i) ∧ (us i).cells.size = P.cellsOf e ∧
    ∀ (d : Nat) (c : Value), (us i).cells[d]? = some c → cs[i * P.cellsOf e + d]? = some c)
def MpoR (P : Program) (w : World) (Im : Nat → Prop) (p : Option (Nat × Nat)) (kt et : TypeId) (bs : List Nat) (cl : Nat) (ks vs : List SV) : Prop :=
 ∃ (b N : Nat) (es : Array MapEntry), p = some (b, N) ∧ w.heap[b]? = some (.map es cl) ∧ LRel P om0 w Im noTh ks (es.toList.map (·.key)) ∧ LRel P om0 w Im noTh vs (es.toList.map (·.val)) ∧ es.toList.map (·.born) = bs ∧
  (∀ k ∈ ks, fits P kt k = true) ∧ (∀ v ∈ vs, fits P et v = true)
def XRel (P : Program) (w : World) (Im : Nat → Prop) (p : Option (Nat × Nat)) : XC → Prop
 | .mpo kt et bs cl ks vs => MpoR P w Im p kt et bs cl ks vs
 | .mpu kt et m => ∃ (bs : List Nat) (cl : Nat) (m' : List (SV × SV)), m.Perm m' ∧ bs.Nodup ∧ (∀ b ∈ bs, b < cl) ∧ MpoR P w Im p kt et bs cl (m'.map (·.1)) (m'.map (·.2))
 | .sqm e es => ∃ es', es.Perm es' ∧ SeqR P w Im p e es'
theorem LRel.same {P : Program} {ω : Nat → Value} {w w' : World} {Im Im' : Nat → Prop} {θ : Th} {cs : List SV} {us : List Value} (hl : LRel P ω w Im θ cs us) (hI : ∀ b, Im b → Im' b ∧ w'.heap[b]? = w.heap[b]?) : LRel P ω w' Im' θ cs us :=
 ⟨hl.len, fun i v u hv hu => (hl.at_ i v u hv hu).mono hI (fun _ _ h => h)⟩
section
variable {P : Program} {w w' : World} {Im Im' : Nat → Prop} {p : Option (Nat × Nat)}
theorem SeqR.mono {e : TypeId} {es : List SV} (hc : SeqR P w Im p e es) (hI : ∀ b, Im b → Im' b ∧ w'.heap[b]? = w.heap[b]?) (hb : ∀ b N, p = some (b, N) → w'.heap[b]? = w.heap[b]?) : SeqR P w' Im' p e es := by
 rcases hc with ⟨h1, h2⟩ | ⟨b, N, cs, T, fr, us, h1, h2, h3, h4, h5, h6, h7⟩
 · exact .inl ⟨h1, h2⟩
 · refine .inr ⟨b, N, cs, T, fr, us, h1, by rw [hb b _ h1]; exact h2, h3, h4, h5, h6, fun i v hv => ?_⟩
   exact ⟨(h7 i v hv).1.mono hI (fun _ _ h => h), (h7 i v hv).2⟩
theorem MpoR.mono {kt et : TypeId} {bs : List Nat} {cl : Nat} {ks vs : List SV} (hc : MpoR P w Im p kt et bs cl ks vs) (hI : ∀ b, Im b → Im' b ∧ w'.heap[b]? = w.heap[b]?) (hb : ∀ b N, p = some (b, N) → w'.heap[b]? = w.heap[b]?) : MpoR P w' Im' p kt et bs cl ks vs := by
 obtain ⟨b, N, es, h1, h2, h3, h4, h5⟩ := hc
 exact ⟨b, N, es, h1, by rw [hb b _ h1]; exact h2, h3.same hI, h4.same hI, h5⟩
theorem XRel.mono {c : XC} (hc : XRel P w Im p c) (hI : ∀ b, Im b → Im' b ∧ w'.heap[b]? = w.heap[b]?) (hb : ∀ b N, p = some (b, N) → w'.heap[b]? = w.heap[b]?) : XRel P w' Im' p c := by
 cases c with
 | mpo kt et bs cl ks vs => exact MpoR.mono hc hI hb
 | mpu kt et m =>
  obtain ⟨bs, cl, m', h1, h2, h3, h4⟩ := hc
  exact ⟨bs, cl, m', h1, h2, h3, h4.mono hI hb⟩
 | sqm e es =>
  obtain ⟨es', h1, h2⟩ := hc
  exact ⟨es', h1, h2.mono hI hb⟩
end
def CRel (P : Program) (ω : Nat → Value) (w : World) (Im : Nat → Prop) (θ : Th) (x : Nat) : Chunk → Prop
 | .cells T vs => ∃ (b : Nat) (cs : Array Value) (fr : Nat × Nat), θ x = some (b, vs.length) ∧ w.heap[b]? = some (.cells cs T fr) ∧ fine cs.size fr ∧
   LRel P ω w Im θ vs cs.toList
 | .seq e es => (es = [] ∧ θ x = none) ∨ ∃ (b N : Nat) (cs : Array Value) (T : TypeId) (fr : Nat × Nat) (us : Nat → Value), θ x = some (b, N) ∧ w.heap[b]? = some (.cells cs T fr) ∧ fine cs.size fr ∧
   (cs.size = N ∧ T = e) ∧ es.length * P.cellsOf e ≤ N ∧ (∀ v ∈ es, expand P e v = v) ∧ (∀ (i : Nat) (v : SV), es[i]? = some v → VRel P om0 w Im noTh v (us i) ∧ (us i).cells.size = P.cellsOf e ∧
    ∀ (d : Nat) (c : Value), (us i).cells[d]? = some c → cs[i * P.cellsOf e + d]? = some c)
 | .loopr st vs ps asg bdy => ∃ (b N : Nat) (lp : Loop), θ x = some (b, N) ∧ w.heap[b]? = some (.loop lp) ∧ lp.params = ps ∧ lp.assign = asg ∧ lp.body = bdy ∧ stRel st lp.state lp.pending ∧ LRel P ω w Im θ vs lp.tmps.toList
 | .mpc ks vs => ∃ (b N : Nat) (es : Array MapEntry) (clock : Nat), θ x = some (b, N) ∧ w.heap[b]? = some (.map es clock) ∧ LRel P ω w Im θ ks (es.toList.map (·.key)) ∧ LRel P ω w Im θ vs (es.toList.map (·.val)) ∧ ∀ e ∈ es.toList, e.born < clock
 | .mpb kd kvs => ∃ (b N : Nat) (es : Array MapEntry) (clock : Nat), θ x = some (b, N) ∧ w.heap[b]? = some (.map es clock) ∧ LRel P ω w Im θ (keysB kd kvs) (es.toList.map (·.key)) ∧ LRel P ω w Im θ (valsB kvs) (es.toList.map (·.val)) ∧ ∀ e ∈ es.toList, e.born < clock
 | .mpn bs cl ks vs => ∃ (b N : Nat) (es : Array MapEntry), θ x = some (b, N) ∧ w.heap[b]? = some (.map es cl) ∧ LRel P ω w Im θ ks (es.toList.map (·.key)) ∧ LRel P ω w Im θ vs (es.toList.map (·.val)) ∧ es.toList.map (·.born) = bs
 | .mit z since seen last => ∃ (b N zb zN : Nat), θ x = some (b, N) ∧ θ z = some (zb, zN) ∧ w.heap[b]? = some (.mapIter (some zb) since seen.reverse.toArray last)
 | .sqo e es => ∃ (b off cap : Nat) (cs : Array Value) (fr : Nat × Nat) (us : Nat → Value), θ x = some (b, enc off cap) ∧ w.heap[b]? = some (.cells cs e fr) ∧ fine cs.size fr ∧
   off + cap * P.cellsOf e ≤ cs.size ∧ es.length ≤ cap ∧ (∀ v ∈ es, expand P e v = v) ∧ (∀ (i : Nat) (v : SV), es[i]? = some v → VRel P om0 w Im noTh v (us i) ∧ (us i).cells.size = P.cellsOf e ∧
    ∀ (d : Nat) (c : Value), (us i).cells[d]? = some c → cs[off + i * P.cellsOf e + d]? = some c)
 | .sqp e es => ∃ (b N : Nat) (cs : Array Value) (fr : Nat × Nat), θ x = some (b, N) ∧ w.heap[b]? = some (.cells cs e fr) ∧ fine cs.size fr ∧ cs.size = N ∧ es.length ≤ N ∧ LRel P ω w Im θ es (cs.toList.take es.length)
 | .ext c => XRel P w Im (θ x) c
abbrev HpF := Nat → Option Chunk
def GlobR (P : Program) (w : World) (Im : Nat → Prop) : Prop :=
 ∀ e ∈ gtab P, Im e.1 ∧ ∃ T fr, w.heap[e.1]? = some (.cells (e.2.map fun kn => Value.int kn.1 kn.2).toArray T fr)
theorem GlobR.mono {P : Program} {w w' : World} {Im Im' : Nat → Prop} (h : GlobR P w Im) (hI : ∀ b, Im b → Im' b ∧ w'.heap[b]? = w.heap[b]?) : GlobR P w' Im' := fun e he => by
 obtain ⟨h1, T, fr, h2⟩ := h e he
 exact ⟨(hI _ h1).1, T, fr, by rw [(hI _ h1).2]; exact h2⟩
theorem GlobR.cell {P : Program} {w : World} {Im : Nat → Prop} (h : GlobR P w Im) {e : Nat × List (IntKind × Int)} (he : e ∈ gtab P) (d : Nat) (kn : IntKind × Int) (hd : e.2[d]? = some kn) : w.cell? ⟨e.1, d, none⟩ = some (.int kn.1 kn.2) := by
 obtain ⟨-, T, fr, h2⟩ := h e he
 simp only [World.cell?, h2]
 simp [hd]
structure HRel (P : Program) (ω : Nat → Value) (w : World) (Im : Nat → Prop) (θ : Th) (h : HpF) : Prop where
 at_ : ∀ x c, h x = some c → CRel P ω w Im θ x c
 inj : ∀ x y c c' b N N', h x = some c → h y = some c' → θ x = some (b, N) → θ y = some (b, N') → x = y
 own : ∀ x c b N, h x = some c → θ x = some (b, N) → ¬ Im b ∧ b < w.heap.size
 im : ∀ b, Im b → b < w.heap.size
 gl : GlobR P w Im
def updF : List (Nat × Option Chunk) → HpF → HpF
 | [], h => h
 | (x, c) :: l, h => updF l (fun y => if y = x then c else h y)
structure Ext (new : Nat → Prop) (h : HpF) (w : World) (Im : Nat → Prop) (θ : Th) (h' : HpF) (w' : World) (Im' : Nat → Prop) (θ' : Th) : Prop where
 thOld : ∀ x, ¬ new x → θ' x = θ x
 thUp : ∀ x p, θ x = some p → θ' x = some p
 imUp : ∀ b, Im b → Im' b
 size : w.heap.size ≤ w'.heap.size
 keep : ∀ b, b < w.heap.size → (∀ x c N, h x = some c → θ x ≠ some (b, N)) → w'.heap[b]? = w.heap[b]?
 imNew : ∀ b, Im' b → Im b ∨ (∃ x c N, h x = some c ∧ θ x = some (b, N)) ∨ w.heap.size ≤ b
 ownNew : ∀ x c b N, h' x = some c → θ' x = some (b, N) → (∃ y c' N', h y = some c' ∧ θ y = some (b, N')) ∨ w.heap.size ≤ b
 os : w'.os = w.os
 output : w'.output = w.output
 tape : w'.tape = w.tape
 drawn : w.drawn ≤ w'.drawn
theorem Ext.refl (new : Nat → Prop) {h : HpF} {w : World} {Im : Nat → Prop} {θ : Th} : Ext new h w Im θ h w Im θ where
 thOld _ _ := rfl
 thUp _ _ h := h
 imUp _ h := h
 size := Nat.le_refl _
 keep _ _ _ := rfl
 imNew _ h := .inl h
 ownNew x c _ N h1 h2 := .inl ⟨x, c, N, h1, h2⟩
 os := rfl
 output := rfl
 tape := rfl
 drawn := Nat.le_refl _
theorem Ext.mono {new new' : Nat → Prop} {h h' : HpF} {w w' : World} {Im Im' : Nat → Prop} {θ θ' : Th} (e : Ext new h w Im θ h' w' Im' θ') (hn : ∀ x, new x → new' x) :
  Ext new' h w Im θ h' w' Im' θ' :=
 { e with thOld := fun x hx => e.thOld x (fun hh => hx (hn x hh)) }
theorem Ext.trans {new : Nat → Prop} {h h' h'' : HpF} {w w' w'' : World} {Im Im' Im'' : Nat → Prop} {θ θ' θ'' : Th}
  (e : Ext new h w Im θ h' w' Im' θ') (f : Ext new h' w' Im' θ' h'' w'' Im'' θ'') : Ext new h w Im θ h'' w'' Im'' θ'' where
 thOld x hx := (f.thOld x hx).trans (e.thOld x hx)
 thUp x p hp := f.thUp x p (e.thUp x p hp)
 imUp b hb := f.imUp b (e.imUp b hb)
 size := Nat.le_trans e.size f.size
 keep b hb hno := by
  rw [f.keep b (Nat.lt_of_lt_of_le hb e.size), e.keep b hb hno]
  intro x c N hx hθ
  rcases e.ownNew x c b N hx hθ with ⟨y, c', N', hy, hy'⟩ | hge
  · exact hno y c' N' hy hy'
  · omega
 imNew b hb := by
  rcases f.imNew b hb with h1 | ⟨x, c, N, hx, hθ⟩ | h1
  · exact e.imNew b h1
  · rcases e.ownNew x c b N hx hθ with h2 | h2
    · exact .inr (.inl h2)
    · exact .inr (.inr h2)
  · exact .inr (.inr (Nat.le_trans e.size h1))
 ownNew x c b N hx hθ := by
  rcases f.ownNew x c b N hx hθ with ⟨y, c', N', hy, hy'⟩ | h1
  · exact e.ownNew y c' b N' hy hy'
  · exact .inr (Nat.le_trans e.size h1)
 os := f.os.trans e.os
 output := f.output.trans e.output
 tape := f.tape.trans e.tape
 drawn := Nat.le_trans e.drawn f.drawn
theorem Ext.im_same {P : Program} {ω : Nat → Value} {new : Nat → Prop} {h h' : HpF} {w w' : World} {Im Im' : Nat → Prop} {θ θ' : Th} (e : Ext new h w Im θ h' w' Im' θ')
  (hr : HRel P ω w Im θ h) : ∀ b, Im b → Im' b ∧ w'.heap[b]? = w.heap[b]? := fun b hb =>
 ⟨e.imUp b hb, e.keep b (hr.im b hb) (fun x c N hx hθ => (hr.own x c b N hx hθ).1 hb)⟩
theorem Ext.val {P : Program} {ω : Nat → Value} {new : Nat → Prop} {h h' : HpF} {w w' : World} {Im Im' : Nat → Prop} {θ θ' : Th} (e : Ext new h w Im θ h' w' Im' θ')
  (hr : HRel P ω w Im θ h) {v : SV} {u : Value} (hv : VRel P ω w Im θ v u) : VRel P ω w' Im' θ' v u :=
 hv.mono (e.im_same hr) e.thUp
def mrun (h : HpF) : OpM → Option (SV × List (Nat × Option Chunk) × Nat × List Nat)
 | .done r ups nx => some (r, ups, nx, [])
 | .get x f => match h x with
  | some c => match mrun h (f c) with
   | some (r, ups, nx, rs) => some (r, ups, nx, x :: rs)
   | none => none
  | none => none
 | .ite b t e => if b then mrun h t else mrun h e
 | .fail => none
end Go.Am
