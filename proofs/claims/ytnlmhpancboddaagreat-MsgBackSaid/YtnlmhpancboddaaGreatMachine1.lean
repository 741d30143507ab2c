/- The abstract machine: an evaluator of the model's code over symbolic values. Definitions alone. -/
import GoSem.Dispatch
import Derived.WalkKit
import Derived.Lib.Bytealg
import Derived.ChangeKeysEq
set_option linter.unusedVariables false
set_option linter.unusedSimpArgs false
namespace Go.Am
theorem cT{α:Sort _}(a b:α):(bif true then a else b)=a:=rfl
theorem cF{α:Sort _}(a b:α):(bif false then a else b)=b:=rfl
theorem dT0{p:Prop}[Decidable p](h:p):decide p=true:=decide_eq_true h
theorem dF0{p:Prop}[Decidable p](h:¬p):decide p=false:=decide_eq_false h
theorem sJ{α:Type _}(a b:α):(some a=some b)=(a=b):=Option.some.injEq a b
theorem nE{n m:Nat}(h:n.beq m=true):n=m:=Nat.eq_of_beq_eq_true h
theorem aA{α:Type _}(a b c:List α):a++b++c=a++(b++c):=List.append_assoc a b c
theorem gD0{α:Type _}{l:List α}{i:Nat}{a:α}:l.getD i a=l[i]?.getD a:=List.getD_eq_getElem?_getD
theorem bA(a b:Bool):((a&&b)=true)=(a=true∧b=true):=Bool.and_eq_true a b
theorem nA{α:Type _}(a:List α):[]++a=a:=List.nil_append a
theorem lA0{α:Type _}{a b:List α}:(a++b).length=a.length+b.length:=List.length_append
theorem pJ{α:Type _}{β:Type _}(a:α)(b:β)(c:α)(d:β):((a,b)=(c,d))=(a=c∧b=d):=Prod.mk.injEq a b c d
theorem lS{α:Type _}{a:α}:[a].length=1:=rfl
theorem bL{x y:Nat}:(x.blt y=true)=(x<y):=Nat.blt_eq
inductive SV where
 | junk
 | opq (n:Nat)
 | bool (b:Bool)
 | int (k:IntKind) (n:Int)
 | str (s:List UInt8)
 | ptr (x off:Nat)
 | nilp
 | pel (v:SV) (off:Nat)
 | sl (x sz off len:Nat)
 | nils
 | psl (e:TypeId) (es:List SV)
 | pnn (e:TypeId) (es:List SV)
 | emp
 | qs (x sz l n:Nat)
 | qp (x sz i off:Nat)
 | mp (x:Nat)
 | nilm
 | yl (x:Nat)
 | fn (f:Fn) (first caps:List SV)
 | nilf
 | iface (t:TypeId) (v:SV)
 | nili
 | agg (cs:List SV)
 | tup (vs:List SV)
 deriving Inhabited
inductive Ex where
 | normal | exit (id:Nat) | ret
 deriving Inhabited
inductive LS where
 | ready | busy | done (e:Ex)
 deriving Inhabited
inductive Chunk where
 | cells (T:TypeId) (vs:List SV)
 | seq (e:TypeId) (es:List SV)
 | loopr (st:LS) (vs:List SV) (ps:Array Nat) (asg bdy:Code)
 | mpc (ks vs:List SV)
 | mpb (kd:IntKind) (kvs:List (Int × Bool))
 deriving Inhabited
inductive Tr (α:Type) where
 | lf
 | nd (v:Option α) (l r:Tr α)
theorem fK{a b:Nat}(h:a=b):Nat.beq a b=true:=by subst h;exact Nat.beq_refl a
theorem b8{a b:Nat}(h:¬ a=b):Nat.beq a b=false:=by
 cases e:Nat.beq a b with
 | false=>rfl
 | true=>exact absurd (nE e) h
namespace Tr
variable {α:Type}
def get:Tr α->Nat->Option α
 | .lf,_=>none
 | .nd v l r,n=>bif Nat.beq n 0 then v else bif Nat.beq (n % 2) 1 then l.get (n / 2)else r.get (n / 2 - 1)
def set:Nat->Tr α->Nat->Option α->Tr α
 | 0,t,_,_=>t
 | d+1,.lf,n,u=>bif Nat.beq n 0 then .nd u .lf .lf else bif Nat.beq (n % 2) 1 then .nd none (set d .lf (n / 2) u) .lf else .nd none .lf (set d .lf (n / 2 - 1) u)
 | d+1,.nd v l r,n,u=>bif Nat.beq n 0 then .nd u l r else bif Nat.beq (n % 2) 1 then .nd v (set d l (n / 2) u) r else .nd v l (set d r (n / 2 - 1) u)
theorem get_lf(n:Nat):(Tr.lf:Tr α).get n=none:=rfl
theorem get_set(d:Nat):∀ (t:Tr α) (n:Nat) (u:Option α) (m:Nat),n < 2 ^ d - 1->(set d t n u).get m=if m=n then u else t.get m:=by
 induction d with
 | zero=>intro t n u m h;simp at h
 | succ d ih=>
  intro t n u m h
  have hp:2 ^ (d+1)=2 * 2 ^ d:=by rw[Nat.pow_succ];omega
  have h1:1<=2 ^ d:=Nat.one_le_two_pow
  cases t with
  | lf=>
   simp only[set]
   by_cases hn:n=0
   . subst hn
     by_cases hm:m=0
     . subst hm;simp[get]
     . have:=b8 hm
       simp[get,this,hm]
   . have hb:Nat.beq n 0=false:=b8   hn
     simp only[hb,cF]
     by_cases ho:n % 2=1
     . have hb2:Nat.beq (n % 2) 1=true:=fK   ho
       simp only[hb2,cT]
       by_cases hm:m=0
       . subst hm;simp[get];intro e;exact absurd e.symm hn
       . have hbm:Nat.beq m 0=false:=b8 hm
         by_cases hom:m % 2=1
         . have hb3:Nat.beq (m % 2) 1=true:=fK hom
           simp only[get,hbm,hb3,cF,cT]
           rw[ih _ _ _ _ (by omega)]
           have:(m / 2=n / 2)↔m=n:=by omega
           simp[this,get]
         . have hb3:Nat.beq (m % 2) 1=false:=b8 hom
           have:m≠n:=by intro e;subst e;exact hom ho
           simp[get,hbm,hb3,this]
     . have hb2:Nat.beq (n % 2) 1=false:=b8   ho
       simp only[hb2,cF]
       by_cases hm:m=0
       . subst hm;simp[get];intro e;exact absurd e.symm hn
       . have hbm:Nat.beq m 0=false:=b8 hm
         by_cases hom:m % 2=1
         . have hb3:Nat.beq (m % 2) 1=true:=fK hom
           have:m≠n:=by intro e;subst e;exact ho hom
           simp[get,hbm,hb3,this]
         . have hb3:Nat.beq (m % 2) 1=false:=b8 hom
           simp only[get,hbm,hb3,cF]
           rw[ih _ _ _ _ (by omega)]
           have:(m / 2 - 1=n / 2 - 1)↔m=n:=by omega
           simp[this,get]
  | nd v l r=>
   simp only[set]
   by_cases hn:n=0
   . subst hn
     by_cases hm:m=0
     . subst hm;simp[get]
     . have:=b8 hm
       simp[get,this,hm]
   . have hb:Nat.beq n 0=false:=b8   hn
     simp only[hb,cF]
     by_cases ho:n % 2=1
     . have hb2:Nat.beq (n % 2) 1=true:=fK   ho
       simp only[hb2,cT]
       by_cases hm:m=0
       . subst hm;simp[get];intro e;exact absurd e.symm hn
       . have hbm:Nat.beq m 0=false:=b8 hm
         by_cases hom:m % 2=1
         . have hb3:Nat.beq (m % 2) 1=true:=fK hom
           simp only[get,hbm,hb3,cF,cT]
           rw[ih _ _ _ _ (by omega)]
           have:(m / 2=n / 2)↔m=n:=by omega
           simp[this]
         . have hb3:Nat.beq (m % 2) 1=false:=b8 hom
           have:m≠n:=by intro e;subst e;exact hom ho
           simp[get,hbm,hb3,this]
     . have hb2:Nat.beq (n % 2) 1=false:=b8   ho
       simp only[hb2,cF]
       by_cases hm:m=0
       . subst hm;simp[get];intro e;exact absurd e.symm hn
       . have hbm:Nat.beq m 0=false:=b8 hm
         by_cases hom:m % 2=1
         . have hb3:Nat.beq (m % 2) 1=true:=fK hom
           have:m≠n:=by intro e;subst e;exact ho hom
           simp[get,hbm,hb3,this]
         . have hb3:Nat.beq (m % 2) 1=false:=b8 hom
           simp only[get,hbm,hb3,cF]
           rw[ih _ _ _ _ (by omega)]
           have:(m / 2 - 1=n / 2 - 1)↔m=n:=by omega
           simp[this]
end Tr
/- Types. -/
def aq(P:Program)(t:TypeId):Bool:=
 match P.underlying t with
 | some (.struct _) | some (.array _ _)=>true
 | _=>false
def fV:IntKind->IntKind->Bool
 | .i8,.i8 | .i16,.i16 | .i32,.i32 | .i64,.i64 | .u8,.u8 | .u16,.u16 | .u32,.u32 | .u64,.u64=>true
 | _,_=>false
def iB{α:Type}:Nat->List α->List α
 | 0,_=>[]
 | n+1,l=>l++iB n l
def aK(P:Program):Nat->TypeId->List TypeId
 | 0,_=>[]
 | d+1,t=>
  match P.underlying t with
  | some (.struct fs)=>fs.toList.flatMap fun f=>aK P d f.type
  | some (.array n e)=>iB n (aK P d e)
  | _=>[t]
def asB:SV->Bool
 | .bool b=>b
 | _=>false
def asI:SV->Int
 | .int _ n=>n
 | _=>0
def asS:SV->List UInt8
 | .str s=>s
 | _=>[]
def asL:SV->List SV
 | .psl _ l=>l
 | _=>[]
def ar:SV->Nat->SV
 | .agg cs,j=>cs.getD j .junk
 | _,_=>.junk
def aS(P:Program)(t:TypeId)(c:SV):SV:=
 match P.underlying t with
 | some .bool=>.bool (asB c)
 | some (.int k)=>.int k (asI c)
 | some .string=>.str (asS c)
 | some (.slice e)=>.psl e (asL c)
 | _=>c
def cv(P:Program)(v:SV):List TypeId->Nat->List SV
 | [],_=>[]
 | u :: us,j=>aS P u (ar v j) :: cv P v us (j+1)
def expand(P:Program)(t:TypeId)(v:SV):SV:=
 bif aq P t then .agg (cv P v (aK P 40 t) 0)else aS P t v
def iC(P:Program)(t:TypeId)(c:SV):SV:=
 match P.underlying t,c with
 | some (.slice e),.nils=>.psl e []
 | _,c=>c
def qt(P:Program):List TypeId->List SV->List SV
 | u :: us,c :: cs=>iC P u c :: qt P us cs
 | _,_=>[]
def Oo(P:Program)(t:TypeId)(v:SV):SV:=
 bif aq P t then
  match v with
  | .agg cs=>.agg (qt P (aK P 40 t) cs)
  | v=>v
 else iC P t v
def cG(P:Program)(t:TypeId)(c:SV):Bool:=
 match P.underlying t,c with
 | some .bool,.bool _=>true
 | some .bool,_=>false
 | some (.int k),.int k' _=>fV k k'
 | some (.int _),_=>false
 | some .string,.str _=>true
 | some .string,_=>false
 | some (.slice e),.psl e' _=>Nat.beq e e'
 | some (.slice _),_=>false
 | some (.interface _),.nili=>true
 | _,_=>false
def aQ(P:Program):List TypeId->List SV->Bool
 | [],[]=>true
 | u :: us,c :: cs=>cG P u c&&aQ P us cs
 | _,_=>false
def tA(P:Program)(t:TypeId)(v:SV):Bool:=
 bif aq P t then
  match v with
  | .agg cs=>aQ P (aK P 40 t) cs
  | _=>false
 else cG P t v
def AZ:SV->Bool
 | .junk | .opq _ | .tup _ | .agg _=>false
 | _=>true
def iD:List SV->Bool
 | []=>true
 | v :: vs=>AZ v&&iD vs
def bP(v:SV):Option (List SV):=
 match v with
 | .junk=>none
 | .opq _=>none
 | .tup _=>none
 | .agg cs=>bif iD cs then some cs else none
 | v=>some [v]
def jE:Value->SV
 | .bool b=>.bool b
 | .int k n=>.int k n
 | .string s=>.str s.data.toList
 | .pointer none=>.nilp
 | .slice none 0 0=>.nils
 | .map none=>.nilm
 | .nilFunc=>.nilf
 | .nilIface=>.nili
 | _=>.junk
def ofValue:Value->SV
 | .agg cs=>.agg (cs.toList.map jE)
 | .iface t v=>.iface t (jE v)
 | v=>jE v
inductive OpM where
 | done (r:SV) (ups:List (Nat × Option Chunk)) (nx:Nat)
 | get (x:Nat) (k:Chunk->OpM)
 | ite (b:Bool) (t e:OpM)
 | fail
abbrev HpL:=List (Nat × Chunk)
def HpL.get:HpL->Nat->Option Chunk
 | [],_=>none
 | (x,c) :: h,y=>bif Nat.beq x y then some c else HpL.get h y
inductive STree where
 | ret (v:SV) (h:HpL)
 | ite (b:Bool) (t e:STree)
 | fail
def en{α:Type}:List α->Nat->Nat->Option (List α)
 | _,0,0=>some []
 | [],_,_=>none
 | _ :: l,o+1,n=>en l o n
 | x :: l,0,n+1=>match en l 0 n with
  | some r=>some (x :: r)
  | none=>none
def cS{α:Type}:List α->Nat->List α->Option (List α)
 | l,0,[]=>some l
 | [],_,_=>none
 | x :: l,o+1,vs=>match cS l o vs with
  | some r=>some (x :: r)
  | none=>none
 | _ :: l,0,v :: vs=>match cS l 0 vs with
  | some r=>some (v :: r)
  | none=>none
def mq{α:Type}:List α->Nat->Option α
 | [],_=>none
 | x :: _,0=>some x
 | _ :: l,n+1=>mq l n
def dR(P:Program)(t:TypeId)(vs:List SV)(off:Nat):Option SV:=
 match P.underlying t with
 | none=>none
 | some (.struct _)=>match en vs off (P.cellsOf t)with
  | some cs=>some (.agg cs)
  | none=>none
 | some (.array _ _)=>match en vs off (P.cellsOf t)with
  | some cs=>some (.agg cs)
  | none=>none
 | some _=>mq vs off
/- Integers, bools, strings. -/
def nr(op:BinOp)(k:IntKind)(a b:Int):OpM->Nat->OpM:=fun _ nx=>
 match op with
 | .add=>.done (.int k (k.wrap (a+b))) [] nx
 | .sub=>.done (.int k (k.wrap (a - b))) [] nx
 | .mul=>.done (.int k (k.wrap (a * b))) [] nx
 | .quo=>.ite (b==0) .fail (.done (.int k (k.wrap (a.tdiv b))) [] nx)
 | .rem=>.ite (b==0) .fail (.done (.int k (a.tmod b)) [] nx)
 | .and=>.done (.int k (k.wrap (BitVec.ofInt k.bits a&&& BitVec.ofInt k.bits b).toNat)) [] nx
 | .or=>.done (.int k (k.wrap (BitVec.ofInt k.bits a||| BitVec.ofInt k.bits b).toNat)) [] nx
 | .xor=>.done (.int k (k.wrap (BitVec.ofInt k.bits a ^^^ BitVec.ofInt k.bits b).toNat)) [] nx
 | .andNot=>.done (.int k (k.wrap (BitVec.ofInt k.bits a&&& ~~~ BitVec.ofInt k.bits b).toNat)) [] nx
 | .eql=>.done (.bool (a==b)) [] nx
 | .neq=>.done (.bool (a !=b)) [] nx
 | .lss=>.done (.bool (decide (a < b))) [] nx
 | .leq=>.done (.bool (decide (a<=b))) [] nx
 | .gtr=>.done (.bool (decide (a > b))) [] nx
 | .geq=>.done (.bool (decide (a>=b))) [] nx
 | _=>.fail
def nt(op:BinOp)(k:IntKind)(a b:Int)(nx:Nat):OpM:=
 match op with
 | .shl=>.ite (decide (b < 0)) .fail (.done (.int k (k.wrap (a * 2 ^ (min b.toNat k.bits)))) [] nx)
 | .shr=>.ite (decide (b < 0)) .fail (.done (.int k (a.fdiv (2 ^ (min b.toNat k.bits)))) [] nx)
 | _=>.fail
def qu(op:BinOp)(a b:List UInt8)(nx:Nat):OpM:=
 match op with
 | .add=>.ite (decide ((a.length+b.length:Int)<=9223372036854775807)) (.done (.str (a++b)) [] nx) .fail
 | .eql=>.done (.bool (a==b)) [] nx
 | .neq=>.done (.bool (!(a==b))) [] nx
 | .lss=>.done (.bool (Op.bytesLess a b)) [] nx
 | .leq=>.done (.bool (Op.bytesLess a b||a==b)) [] nx
 | .gtr=>.done (.bool (!(Op.bytesLess a b||a==b))) [] nx
 | .geq=>.done (.bool (!(Op.bytesLess a b))) [] nx
 | _=>.fail
def k6:SV->SV->Option Bool
 | .bool a,.bool b=>some (a==b)
 | .int _ a,.int _ b=>some (a==b)
 | .str a,.str b=>some (a==b)
 | _,_=>none
def aX:List SV->List SV->Option Bool
 | [],[]=>some true
 | [a],[b]=>k6 a b
 | a :: as,b :: bs=>match k6 a b,aX as bs with
  | some x,some y=>some (x&&y)
  | _,_=>none
 | _,_=>none
def fA(P:Program)(rec:TypeId->Bool):List Field->Nat->Nat->Bool
 | [],o,n=>Nat.beq o n
 | f :: fs,o,n=>f.name != "_" &&Nat.beq f.offset o&&rec f.type&&fA P rec fs (o+P.cellsOf f.type) n
def bK(P:Program):Nat->TypeId->Bool
 | 0,_=>false
 | d+1,t=>
  match P.underlying t with
  | some .bool=>Nat.beq (P.cellsOf t) 1
  | some (.int _)=>Nat.beq (P.cellsOf t) 1
  | some .string=>Nat.beq (P.cellsOf t) 1
  | some (.struct fs)=> !P.stoodInHeld t&&fA P (bK P d) fs.toList 0 (P.cellsOf t)
  | some (.array n e)=>bK P d e&&Nat.beq (n * P.cellsOf e) (P.cellsOf t)
  | _=>false
def D2(P:Program)(t:TypeId)(x y:SV):Option Bool:=
 match P.underlying t,x,y with
 | some (.pointer _),.nilp,.nilp=>some true
 | some (.pointer _),.ptr _ _,.nilp=>some false
 | some (.pointer _),.nilp,.ptr _ _=>some false
 | some (.slice _),.nils,.nils=>some true
 | some (.slice _),.psl _ (_ :: _),.nils=>some false
 | some (.slice _),.nils,.psl _ (_ :: _)=>some false
 | some (.func _ _ _),.nilf,.nilf=>some true
 | some (.func _ _ _),.fn _ _ _,.nilf=>some false
 | some (.func _ _ _),.nilf,.fn _ _ _=>some false
 | some (.map _ _),.nilm,.nilm=>some true
 | some (.map _ _),.mp _,.nilm=>some false
 | some (.interface _),.iface _ _,.nili=>some false
 | some (.interface _),.nili,.iface _ _=>some false
 | _,_,_=>none
def xL:BinOp->Option Bool
 | .eql=>some true
 | .neq=>some false
 | _=>none
def D3(P:Program)(op:BinOp)(t:TypeId)(x y:SV)(nx:Nat):OpM:=
 match x,y with
 | .int k a,.int k' b=>
  match op with
  | .shl | .shr=>nt op k a b nx
  | _=>bif fV k k' then nr op k a b .fail nx else .fail
 | .str a,.str b=>qu op a b nx
 | .bool a,.bool b=>
  match P.underlying t,xL op with
  | some .bool,some true=>.done (.bool (a==b)) [] nx
  | some .bool,some false=>.done (.bool (!(a==b))) [] nx
  | _,_=>.fail
 | .agg as,.agg bs=>
  bif aq P t&&bK P 40 t&& !P.eqGuardType P.depth t&&aQ P (aK P 40 t) as&&aQ P (aK P 40 t) bs then
   match aX as bs,xL op with
   | some r,some true=>.done (.bool r) [] nx
   | some r,some false=>.done (.bool (!r)) [] nx
   | _,_=>.fail
  else .fail
 | _,_=>.fail
def zy(P:Program)(src dst:TypeId)(x:SV)(nx:Nat):OpM:=
 match P.underlying src,P.underlying dst,x with
 | some (.int _),some (.int k),.int _ n=>.done (.int k (k.wrap n)) [] nx
 | some .string,some .string,.str s=>.done (.str s) [] nx
 | _,_,_=>.fail
def fP(P:Program)(t:TypeId):Option SV:=
 match P.info? t with
 | some i=>match i.zero with
  | some z=>some (ofValue z)
  | none=>none
 | none=>none
def mr(place:Nat->Option (Nat × Nat))(cells:List SV):List (Nat × SV)->Option (List SV)
 | []=>some cells
 | (i,v) :: rest=>
  match place i,bP v with
  | some (off,size),some vs=>bif Nat.beq vs.length size then
    match cS cells off vs with
    | some cells'=>mr place cells' rest
    | none=>none
   else none
  | _,_=>none
def mt(P:Program)(t:TypeId)(i:Nat):Option (Nat × Nat):=
 match P.underlying t with
 | some (.struct fs)=>match fs[i]? with
  | some f=>some (f.offset,P.cellsOf f.type)
  | none=>none
 | some (.array _ e)=>some (i * P.cellsOf e,P.cellsOf e)
 | _=>none
def bi(P:Program)(t:TypeId):Bool:=(P.info? t).isSome
def oT(P:Program)(t:TypeId):Bool:=
 match P.underlying t with
 | some (.struct fs)=>fs.toList.all fun f=>bi P f.type
 | some (.array _ e)=>bi P e
 | _=>false
def qv(P:Program)(t:TypeId)(parts:List (Nat × SV))(nx:Nat):OpM:=
 bif oT P t then
  match fP P t with
  | some (.agg zs)=>match mr (mt P t) zs parts with
   | some cs=>.done (.agg cs) [] nx
   | none=>.fail
  | _=>.fail
 else .fail
/- Names of blocks. -/
mutual
def bq(f:Nat->Nat):SV->SV
 | .ptr x o=>.ptr (f x) o
 | .sl x sz o l=>.sl (f x) sz o l
 | .qs x sz l n=>.qs (f x) sz l n
 | .qp x sz i o=>.qp (f x) sz i o
 | .mp x=>.mp (f x)
 | .yl x=>.yl (f x)
 | .fn g a b=>.fn g (cx f a) (cx f b)
 | .iface t v=>.iface t (bq f v)
 | .agg cs=>.agg (cx f cs)
 | .tup vs=>.tup (cx f vs)
 | v=>v
def cx(f:Nat->Nat):List SV->List SV
 | []=>[]
 | v :: vs=>bq f v :: cx f vs
end
def br(f:Nat->Nat):Chunk->Chunk
 | .cells T vs=>.cells T (cx f vs)
 | .seq e es=>.seq e es
 | .loopr st vs ps asg bdy=>.loopr st (cx f vs) ps asg bdy
 | .mpc ks vs=>.mpc (cx f ks) (cx f vs)
 | .mpb kd kvs=>.mpb kd kvs
mutual
def ak:SV->List Nat
 | .ptr x _=>[x]
 | .sl x _ _ _=>[x]
 | .qs x _ _ _=>[x]
 | .qp x _ _ _=>[x]
 | .mp x=>[x]
 | .yl x=>[x]
 | .fn _ a b=>aF a++aF b
 | .iface _ v=>ak v
 | .agg cs=>aF cs
 | .tup vs=>aF vs
 | _=>[]
def aF:List SV->List Nat
 | []=>[]
 | v :: vs=>ak v++aF vs
end
def aJ:Chunk->List Nat
 | .cells _ vs=>aF vs
 | .seq _ _=>[]
 | .loopr _ vs _ _ _=>aF vs
 | .mpc ks vs=>aF ks++aF vs
 | .mpb _ _=>[]
def fB:Nat->List Nat->Bool
 | _,[]=>false
 | x,y :: l=>Nat.beq x y||fB x l
def eJ:List Nat->Nat->Nat
 | [],_=>0
 | y :: l,x=>bif Nat.beq y x then 0 else eJ l x+1
def jF(k:HpL->OpM):Nat->List Nat->HpL->OpM
 | 0,_,_=>.fail
 | _+1,[],acc=>k acc
 | d+1,x :: todo,acc=>
  bif fB x (acc.map (·.1))then jF k d todo acc
  else .get x fun c=>jF k d (aJ c++todo) ((x,c) :: acc)
def du(f:Nat->Nat):HpL->Nat->HpL
 | [],_=>[]
 | (_,c) :: l,i=>(i,br f c) :: du f l (i+1)
def eB(ns:List Nat)(m nx y:Nat):Nat:=bif Nat.blt y m then ns.getD y 0 else nx+(y - m)
def jG:List Nat->Nat->Nat
 | [],n=>n
 | y :: l,n=>jG l (bif Nat.blt n (y+1)then y+1 else n)
def ff:List (Nat × Option Chunk)->List Nat
 | []=>[]
 | (y,some c) :: l=>y :: (aJ c++ff l)
 | (y,none) :: l=>y :: ff l
def cW(f:Nat->Nat):List (Nat × Option Chunk)->List (Nat × Option Chunk)
 | []=>[]
 | (y,some c) :: l=>(f y,some (br f c)) :: cW f l
 | (y,none) :: l=>(f y,none) :: cW f l
inductive CTree where
 | ret (v:SV) (ups:List (Nat × Option Chunk))
 | ite (b:Bool) (t e:CTree)
 | fail
abbrev ag:=List SV->HpL->CTree
def iE(ns:List Nat)(m nx:Nat):CTree->OpM
 | .ret v ups=>.done (bq (eB ns m nx) v) (cW (eB ns m nx) ups) (nx+(jG (ak v++ff ups) m - m))
 | .ite b t e=>.ite b (iE ns m nx t) (iE ns m nx e)
 | .fail=>.fail
def sh(s:ag)(args:List SV)(nx:Nat):OpM:=
 jF (fun acc=>
  let l:=acc.reverse
  let ns:=l.map (·.1)
  iE ns ns.length nx (s (cx (eJ ns) args) (du (eJ ns) l 0))) 1000 (aF args) []
def n6(κ:Nat->Option ag)(f:Nat)(args:List SV)(nx:Nat):OpM:=
 match κ f with
 | none=>.fail
 | some s=>sh s args nx
def mv(name:String):List Method->Option Method
 | []=>none
 | m :: l=>bif m.name==name then some m else mv name l
def mw(P:Program)(t:TypeId)(name:String):Option Nat:=
 match P.info? t with
 | some i=>match mv name i.methods.toList with
  | some m=>match m.path.toList,m.func with
   | [],some (f,p)=>match P.underlying t with
    | some (.pointer _)=>bif p then some f else none
    | some _=>bif p then none else some f
    | none=>none
   | _,_=>none
  | none=>none
 | none=>none
def gJ         (P:Program)(t:TypeId)(n:Nat)(parts:List (Nat × SV))(nx:Nat):OpM:=
 match P.underlying t with
 | some (.slice e)=>bif bi     P e&&Nat.ble (n * P.cellsOf e) 16777216&& !(Nat.beq (P.cellsOf e) 0)then
   match fP P e with
   | some z=>match bP z with
    | some zs=>bif Nat.beq zs.length (P.cellsOf e)then
      match mr (fun i=>some (i * P.cellsOf e,P.cellsOf e)) (iB n zs) parts with
      | some cs=>.done (.sl nx (P.cellsOf e) 0 n) [(nx,some (.cells e cs))] (nx+1)
      | none=>.fail
     else .fail
    | none=>.fail
   | none=>.fail
  else .fail
 | _=>.fail
def iF        (P:Program)(t:TypeId)(l c:SV)(nx:Nat):OpM:=
 match P.underlying t,l,c with
 | some (.slice e),.int _ a,.int _ b=>
  match P.info? e with
  | some i=>match fP    P e with
   | some z=>match bP z with
    | some zs=>bif Nat.beq zs.length (P.cellsOf e)&& !(Nat.beq (P.cellsOf e) 0)then
      .ite (decide (0<=a)&&decide (a<=b)&&decide (b<=16777216)&&decide (b * (P.cellsOf e:Int)<=16777216)&&decide ((i.bytes:Int) * b<=281474976710656))
       (.done (.sl nx (P.cellsOf e) 0 a.toNat) [(nx,some (.cells e (iB b.toNat zs)))] (nx+1)) .fail
     else .fail
    | none=>.fail
   | none=>.fail
  | none=>.fail
 | _,_,_=>.fail
def ck:Option SV->Int->Option Int
 | none,d=>some d
 | some (.int _ i),_=>some i
 | _,_=>none
def my(e:TypeId)(y sz off n:Nat)(l h:Int)(nx:Nat):OpM:=
 .ite (decide (0<=l)&&decide (l<=h)&&decide (h<=(n:Int)))
  (.ite (decide (l < (n:Int))||decide (l=0)) (.done (.sl y sz (off+l.toNat * sz) (h.toNat - l.toNat)) [] nx) (.done (.psl e []) [] nx)) .fail
def tB(P:Program)(t:TypeId)(x:SV)(lo hi mx:Option SV)(nx:Nat):OpM:=
 match mx,P.underlying t,x with
 | none,some (.slice e),.sl y sz off n=>
  match ck lo 0,ck hi n with
  | some l,some h=>bif bi P e&&Nat.beq sz (P.cellsOf e)then my e y sz off n l h nx else .fail
  | _,_=>.fail
 | _,_,_=>.fail
def nv(P:Program)(t:TypeId)(x:SV)(lo hi mx:Option SV)(nx:Nat):OpM:=
 match mx,P.underlying t,x with
 | none,some (.array n e),.ptr y off=>
  match ck lo 0,ck hi n with
  | some l,some h=>.get y fun c=>match c with
   | .cells _ vs=>bif bi P e&&Nat.ble (off+n * P.cellsOf e) vs.length then my e y (P.cellsOf e) off n l h nx else .fail
   | _=>.fail
  | _,_=>.fail
 | _,_,_=>.fail
/- Indices, lengths. -/
def inB(i:Int)(n:Nat):Bool:=decide (0<=i)&&decide (i < (n:Int))
def gk(P:Program)(t:TypeId)(x ix:SV)(nx:Nat):OpM:=
 match ix,P.underlying t,x with
 | .int _ i,some (.array n e),.ptr y off=>bif bi P e then .ite (inB i n) (.done (.ptr y (off+i.toNat * P.cellsOf e)) [] nx) .fail else .fail
 | .int _ i,some (.slice e),.sl y _ off n=>bif bi P e then .ite (inB i n) (.done (.ptr y (off+i.toNat * P.cellsOf e)) [] nx) .fail else .fail
 | _,_,_=>.fail
def qw(P:Program)(t:TypeId)(x ix:SV)(nx:Nat):OpM:=
 match ix,P.underlying t,x with
 | .int _ i,some (.array n e),.agg cs=>bif bi P e then
   match dR P e cs (i.toNat * P.cellsOf e)with
   | some v=>.ite (inB i n) (.done v [] nx) .fail
   | none=>.fail
  else .fail
 | .int _ i,some .string,.str s=>.ite (inB i s.length) (.done (.int .u8 (s.getD i.toNat 0).toNat) [] nx) .fail
 | _,_,_=>.fail
def GR(P:Program)(t:TypeId)(x:SV)(nx:Nat):OpM:=
 match P.underlying t,x with
 | some .string,.str s=>.done (.int .i64 s.length) [] nx
 | some (.array n _),_=>.done (.int .i64 n) [] nx
 | some (.slice _),.sl _ _ _ n=>.done (.int .i64 n) [] nx
 | some (.slice _),.nils=>.done (.int .i64 0) [] nx
 | some (.slice _),.psl _ es=>.done (.int .i64 es.length) [] nx
 | _,_=>.fail
def mz(P:Program)(b:Builtin)(tys:List TypeId)(args:List SV)(nx:Nat):OpM:=
 match b,tys,args with
 | .len,t :: _,x :: _=>GR P t x nx
 | _,_,_=>.fail
def oz  (P:Program)(κ:Nat->Option ag   )(o:Oper)(ev:Operand->SV)(nx:Nat):OpM:=
 match o.op with
 | .move x=>.done (ev x) [] nx
 | .assign x=>.done (ev x) [] nx
 | .pick c a b=>match ev c with
  | .bool t=>.ite t (.done (ev a) [] nx) (.done (ev b) [] nx)
  | _=>.fail
 | .alloc t=>match fP P t with
  | some z=>match bP z with
   | some cs=>.done (.ptr nx 0) [(nx,some (.cells t cs))] (nx+1)
   | none=>.fail
  | none=>.fail
 | .box t x=>match bP (ev x)with
  | some cs=>.done (.ptr nx 0) [(nx,some (.cells t cs))] (nx+1)
  | none=>.fail
 | .build t ps=>qv P t (ps.toList.map fun p=>(p.1,ev p.2)) nx
 | .load t a=>match ev a with
  | .ptr x off=>.get x fun c=>match c with
   | .cells _ vs=>match dR P t vs off with
    | some v=>.done v [] nx
    | none=>.fail
   | _=>.fail
  | _=>.fail
 | .store t a v=>match ev a,bP (ev v)with
  | .ptr x off,some vs=>bif Nat.beq vs.length (P.cellsOf t)&&bi P t then .get x fun c=>match c with
    | .cells T cs=>match cS cs off vs with
     | some cs'=>.done .junk [(x,some (.cells T cs'))] nx
     | none=>.fail
    | _=>.fail
   else .fail
  | _,_=>.fail
 | .nilCheck x=>match ev x with
  | .ptr y off=>.done (.ptr y off) [] nx
  | .fn (.func f) a b=>.done (.fn (.func f) a b) [] nx
  | _=>.fail
 | .binOp op t x y _=>match D2 P t (ev x) (ev y),xL op with
  | some b,some true=>.done (.bool b) [] nx
  | some b,some false=>.done (.bool (!b)) [] nx
  | _,_=>D3 P op t (ev x) (ev y) nx
 | .unOp op _ x=>match op,ev x with
  | .not,.bool b=>.done (.bool (!b)) [] nx
  | .neg,.int k n=>.done (.int k (k.wrap (0 - n))) [] nx
  | _,_=>.fail
 | .convert s d x=>zy P s d (ev x) nx
 | .makeFunc g a b=>match g with
  | .func f=>.done (.fn (.func f) (a.toList.map ev) (b.toList.map ev)) [] nx
  | _=>.fail
 | .fieldAddr t x f=>match ev x,P.underlying t with
  | .ptr y off,some (.struct fs)=>match fs[f]? with
   | some fd=>bif Nat.beq (P.cellsOf fd.type) 0 then .fail else .done (.ptr y (off+fd.offset)) [] nx
   | none=>.fail
  | _,_=>.fail
 | .field t x f=>match ev x,P.underlying t with
  | .agg cs,some (.struct fs)=>match fs[f]? with
   | some fd=>match dR P fd.type cs fd.offset with
    | some v=>.done v [] nx
    | none=>.fail
   | none=>.fail
  | _,_=>.fail
 | .extract x i=>match ev x with
  | .tup vs=>match mq vs i with
   | some v=>.done v [] nx
   | none=>.fail
  | _=>.fail
 | .call c=>match c.callee with
  | .value f=>match ev f with
   | .fn (.func g) first caps=>n6 κ g (first++(c.args.toList.map ev++caps)) nx
   | _=>.fail
  | .builtin b=>mz P b c.argTypes.toList (c.args.toList.map ev) nx
  | .invoke r m=>match ev r with
   | .iface t v=>match mw P t m with
    | some g=>n6 κ g (v :: c.args.toList.map ev) nx
    | none=>.fail
   | _=>.fail
 | .buildSlice t n ps=>gJ P t n (ps.toList.map fun p=>(p.1,ev p.2)) nx
 | .makeSlice t l c=>iF P t (ev l) (ev c) nx
 | .slice t x lo hi mx=>tB P t (ev x) (lo.map ev) (hi.map ev) (mx.map ev) nx
 | .indexAddr t x ix=>gk P t (ev x) (ev ix) nx
 | .index t x ix=>qw P t (ev x) (ev ix) nx
 | _=>.fail
mutual
def eK:SV->Bool
 | .opq _=>false
 | .fn _ a b=>ce a&&ce b
 | .iface _ v=>eK v
 | .agg cs=>ce cs
 | .tup vs=>ce vs
 | _=>true
def ce:List SV->Bool
 | []=>true
 | v :: vs=>eK v&&ce vs
end
def iG:Chunk->Bool
 | .cells _ vs=>ce vs
 | .seq _ _=>true
 | .loopr _ vs _ _ _=>ce vs
 | .mpc ks vs=>ce ks&&ce vs
 | .mpb _ _=>true
/- Further operations: lists that grow, what is known by content, maps that are written out. -/
def oU(P:Program)(t:TypeId)(k:SV->List Nat->OpM):SV->OpM
 | .qs y sz l n=>
  match P.underlying t with
  | some (.slice e)=>.get y fun c=>match c with
   | .seq e' es=>bif Nat.beq e e'&&Nat.beq sz (P.cellsOf e)then .ite (decide (l=0)&&decide (n=es.length)) (k (.psl e es) [y]) .fail else .fail
   | _=>.fail
  | _=>.fail
 | .emp=>match P.underlying t with
  | some (.slice e)=>k (.psl e []) []
  | _=>.fail
 | c=>k (iC P t c) []
def xM(P:Program)(k:List SV->List Nat->OpM):List TypeId->List SV->List SV->List Nat->OpM
 | u :: us,c :: cs,acc,ys=>oU P u (fun c' zs=>xM P k us cs (acc++[c']) (ys++zs)) c
 | [],[],acc,ys=>k acc ys
 | _,_,_,_=>.fail
def qx(P:Program)(t:TypeId)(v:SV):Bool:=
 match bP v with
 | some cs=>Nat.beq cs.length (P.cellsOf t)
 | none=>false
def GS(P:Program)(t:TypeId)(k:SV->List Nat->OpM)(v:SV):OpM:=
 let k':=fun v' ys=>bif tA P t v'&&qx P t v' then k v' ys else .fail
 bif aq P t then
  match v with
  | .agg cs=>xM P (fun cs' ys=>k' (.agg cs') ys) (aK P 40 t) cs [] []
  | _=>.fail
 else oU P t k' v
def k7(P:Program)(t:TypeId)(k:List SV->List Nat->OpM):List SV->List SV->List Nat->OpM
 | [],acc,ys=>k acc ys
 | v :: vs,acc,ys=>GS P t (fun v' zs=>k7 P t k vs (acc++[v']) (ys++zs)) v
def iH(P:Program)(t:TypeId)(vs:List SV):Nat->Nat->Option (List SV)
 | _,0=>some []
 | off,m+1=>match dR P t vs off,iH P t vs (off+P.cellsOf t) m with
  | some v,some l=>some (v :: l)
  | _,_=>none
def dh:List Nat->List (Nat × Option Chunk)
 | []=>[]
 | y :: ys=>(y,none) :: dh ys
def k9(b:UInt8):SV:=.int .u8 b.toNat
def gl(P:Program)(e:TypeId)(k:List SV->List Nat->OpM):SV->OpM
 | .sl y sz off m=>.get y fun c=>match c with
  | .cells _ cs=>bif Nat.beq sz (P.cellsOf e)then match iH P e cs off m with
   | some vs=>k7 P e k vs [] []
   | none=>.fail
   else .fail
  | _=>.fail
 | .qs y sz l m=>.get y fun c=>match c with
  | .seq e' es=>bif Nat.beq e e'&&Nat.beq sz (P.cellsOf e)then
    .ite (decide (l=0)&&decide (m=es.length)) (k es []) (.ite (decide (l+m<=es.length)) (k ((es.drop l).take m) []) .fail)else .fail
  | _=>.fail
 | .psl e' es=>bif Nat.beq e e' then k es []else .fail
 | .pnn e' es=>bif Nat.beq e e' then k es []else .fail
 | .nils=>k [] []
 | .emp=>k [] []
 | .str s=>match P.underlying e with
  | some (.int .u8)=>bif Nat.beq (P.cellsOf e) 1 then k (s.map k9) []else .fail
  | _=>.fail
 | _=>.fail
def ig(P:Program)(t:TypeId):Bool:=
 match P.underlying t with
 | some .bool=>true
 | some (.int _)=>true
 | some .string=>true
 | some (.slice _)=>true
 | _=>false
def iI(P:Program)(e:TypeId):Bool:=bif aq P e then(aK P 40 e).all (ig P)else ig P e
def ny:List Nat->List Nat->Bool
 | [],_=>true
 | x :: l,m=> !fB x m&&ny l m
def qy   (P:Program)(e:TypeId)(es news:List SV)(dead ys:List Nat)(nx:Nat):OpM:=
 match P.info? e with
 | some i=>match i.zero with
  | some z=>bif Nat.beq z.cells.size (P.cellsOf e)&& !(Nat.beq (P.cellsOf e) 0)&&ny dead ys then
    .ite (decide (es.length+news.length<=9223372036854775807)&&decide ((es.length+news.length) * i.bytes<=140737488355328))
     (.done (.qs nx (P.cellsOf e) 0 (es.length+news.length)) (dh (dead++ys)++[(nx,some (.seq e (es++news)))]) (nx+1)) .fail
   else .fail
  | none=>.fail
 | none=>.fail
def eC(P:Program)(t:TypeId):Bool:=
 match P.underlying t with
 | some (.slice _)=>true
 | some .string=>true
 | _=>false
def tC     (P:Program)(t t':TypeId)(s x:SV)(nx:Nat):OpM:=
 match P.underlying t with
 | some (.slice e)=>
  bif eC P t'&&iI P e then
   match s with
   | .nils=>gl P e (fun news ys=>qy P e [] news [] ys nx) x
   | .emp=>gl P e (fun news ys=>qy P e [] news [] ys nx) x
   | .qs y sz l n=>.get y fun c=>match c with
    | .seq e' es=>bif Nat.beq e e'&&Nat.beq sz (P.cellsOf e)&&Nat.beq l 0 then .ite (decide (n=es.length)) (gl P e (fun news ys=>qy P e es news [y] ys nx) x) .fail else .fail
    | _=>.fail
   | .sl y sz off n=>.get y fun c=>match c with
    | .cells T cs=>bif Nat.beq sz (P.cellsOf e)&&Nat.beq T e&&Nat.beq off 0&&Nat.ble (n * sz) cs.length then match iH P e cs 0 n with
      | some vs=>k7 P e (fun es ys=>gl P e (fun news ys'=>qy P e es news [y] (ys++ys') nx) x) vs [] []
      | none=>.fail
     else .fail
    | _=>.fail
   | _=>.fail
  else .fail
 | _=>.fail
def D4(P:Program)(e:TypeId)(x:SV)(l h k:Int)(nx:Nat):OpM:=
 match x with
 | .qs y sz i n=>bif Nat.beq sz (P.cellsOf e)then .ite (decide (0<=l)&&decide (l<=h)&&decide (h<=k)&&decide (k<=(n:Int))) (.done (.qs y sz (i+l.toNat) (h.toNat - l.toNat)) [] nx) .fail else .fail
 | _=>.fail
def kH:List SV->Bool
 | []=>true
 | .int .u8 _ :: l=>kH l
 | _=>false
def qz(P:Program)(e:TypeId):Bool:=match P.underlying e with
 | some (.int .u8)=>Nat.beq (P.cellsOf e) 1
 | _=>false
def KP(P:Program)(e:TypeId)(n:Nat)(v:SV)(off:Nat)(nx:Nat):OpM:=
 match bP v with
 | some cs=>match en cs off n with
  | some bs=>bif bi P e&&(qz P e&&(kH bs&&Nat.ble 1 n))then .done (.psl e bs) [] nx else .fail
  | none=>.fail
 | none=>.fail
def gK(es:List SV):Nat->Nat->List SV
 | _,0=>[]
 | i,n+1=>.int .u8 (asI (es.getD i .junk)) :: gK es (i+1) n
def D5(P:Program)(t:TypeId)(x:SV)(nx:Nat):OpM:=
 match P.underlying t,x with
 | some (.array n e),.psl e' es=>bif qz P e&&Nat.beq e e'&&Nat.ble 1 n then .ite (decide (n<=es.length)) (.done (.pel (.agg (gK es 0 n)) 0) [] nx) .fail else .fail
 | _,_=>.fail
def tD  (P:Program)(t:TypeId)(x:SV)(lo hi mx:Option SV)(nx:Nat):OpM:=
 match mx with
 | none=>
  match P.underlying t,x with
  | some .string,.str s=>match ck lo 0,ck hi s.length with
   | some l,some h=>.ite (decide (0<=l)&&decide (l<=h)&&decide (h<=(s.length:Int))) (.done (.str ((s.drop l.toNat).take (h.toNat - l.toNat))) [] nx) .fail
   | _,_=>.fail
  | some (.slice e),.psl e' es=>match ck lo 0,ck hi es.length with
   | some l,some h=>bif Nat.beq e e'&&bi P e then .ite (decide (0<=l)&&decide (l<=h)&&decide (h<=(es.length:Int))) (.done (.psl e ((es.drop l.toNat).take (h.toNat - l.toNat))) [] nx) .fail else .fail
   | _,_=>.fail
  | some (.slice e),.qs y sz k n=>match ck lo 0,ck hi n with
   | some l,some h=>bif Nat.beq sz (P.cellsOf e)&&bi P e then .ite (decide (0<=l)&&decide (l<=h)&&decide (h<=(n:Int))) (.done (.qs y sz (k+l.toNat) (h.toNat - l.toNat)) [] nx) .fail else .fail
   | _,_=>.fail
  | some (.slice e),.nils=>match ck lo 0,ck hi 0 with
   | some l,some h=>bif bi P e then .ite (decide (l=0)&&decide (h=0)) (.done .nils [] nx) .fail else .fail
   | _,_=>.fail
  | some (.array _ _),.ptr _ _=>nv P t x lo hi mx nx
  | some (.array n e),.pel v off=>match lo,hi with
   | none,none=>KP P e n v off nx
   | _,_=>.fail
  | _,_=>.fail
 | some m=>
  match P.underlying t,ck lo 0,ck hi 1,ck (some m) 1 with
  | some (.slice e),some l,some h,some k=>bif bi P e&&(match hi with
    | some _=>true
    | none=>false)then
    .ite (decide (l=0)&&decide (h=0)&&decide (k=0)) (match x with
     | .nils=>.done .nils [] nx
     | .emp=>.done .emp [] nx
     | .psl _ _=>.done .emp [] nx
     | .pnn _ _=>.done .emp [] nx
     | .qs _ _ _ _=>.done .emp [] nx
     | .sl _ _ _ _=>.done .emp [] nx
     | _=>.fail) (D4 P e x l h k nx)
   else .fail
  | _,_,_,_=>.fail
def xN(P:Program)(t:TypeId)(lo hi mx:Bool)(as:List SV)(nx:Nat):OpM:=
 match lo,hi,mx,as with
 | false,false,false,[x]=>tD P t x none none none nx
 | true,false,false,[x,l]=>tD P t x (some l) none none nx
 | false,true,false,[x,h]=>tD P t x none (some h) none nx
 | true,true,false,[x,l,h]=>tD P t x (some l) (some h) none nx
 | false,true,true,[x,h,m]=>tD P t x none (some h) (some m) nx
 | true,true,true,[x,l,h,m]=>tD P t x (some l) (some h) (some m) nx
 | _,_,_,_=>.fail
def lc(P:Program)(t:TypeId)(x ix:SV)(nx:Nat):OpM:=
 match ix,P.underlying t,x with
 | .int _ i,some (.slice e),.psl e' es=>bif Nat.beq e e'&&bi P e then .ite (inB i es.length) (.done (.pel (expand P e (es.getD i.toNat .junk)) 0) [] nx) .fail else .fail
 | .int _ i,some (.slice e),.qs y sz k n=>bif Nat.beq sz (P.cellsOf e)&&bi P e then .ite (inB i n) (.done (.qp y sz (k+i.toNat) 0) [] nx) .fail else .fail
 | .int _ i,some (.array n e),.pel v off=>bif bi P e then .ite (inB i n) (.done (.pel v (off+i.toNat * P.cellsOf e)) [] nx) .fail else .fail
 | .int _ i,some (.array n e),.qp y sz k off=>bif bi P e then .ite (inB i n) (.done (.qp y sz k (off+i.toNat * P.cellsOf e)) [] nx) .fail else .fail
 | _,_,_=>.fail
def D6   (P:Program)(t:TypeId)(a:SV)(nx:Nat):OpM:=
 match a with
 | .pel v off=>match bP v with
  | some cs=>match dR P t cs off with
   | some u=>bif eK u then .done u [] nx else .fail
   | none=>.fail
  | none=>.fail
 | .qp y sz k off=>.get y fun c=>match c with
  | .seq e es=>bif Nat.beq sz (P.cellsOf e)then
    match bP (expand P e (es.getD k .junk))with
    | some cs=>match dR P t cs off with
     | some u=>bif eK u then .ite (decide (k < es.length)) (.done u [] nx) .fail else .fail
     | none=>.fail
    | none=>.fail
   else .fail
  | _=>.fail
 | _=>.fail
def xO    (P:Program)(t:TypeId)(a v:SV)(nx:Nat):OpM:=
 match a with
 | .qp y sz k off=>bif bi     P t then .get y fun c=>match c with
  | .seq e es=>bif Nat.beq sz (P.cellsOf e)then
    match bP (expand P e (es.getD k .junk))with
    | some cs=>GS P t (fun v' ys=>match bP v' with
     | some vs=>bif Nat.beq vs.length (P.cellsOf t)&& !(fB y ys)then match cS cs off vs with
      | some cs'=>match(bif aq P e then some (.agg cs')else bif Nat.beq sz 1 then mq cs' 0 else none)with
       | some w=>bif tA P e w&&Nat.beq cs'.length sz then .ite (decide (k < es.length)) (.done .junk (dh ys++[(y,some (.seq e (es.set k w)))]) nx) .fail else .fail
       | none=>.fail
      | none=>.fail
      else .fail
     | none=>.fail) v
    | none=>.fail
   else .fail
  | _=>.fail
  else .fail
 | _=>.fail
def ld(P:Program)(t:TypeId)(x:SV)(f:Nat)(nx:Nat):OpM:=
 match P.underlying t with
 | some (.struct fs)=>match fs[f]? with
  | some fd=>bif Nat.beq (P.cellsOf fd.type) 0 then .fail else
   match x with
   | .pel v off=>.done (.pel v (off+fd.offset)) [] nx
   | .qp y sz k off=>.done (.qp y sz k (off+fd.offset)) [] nx
   | _=>.fail
  | none=>.fail
 | _=>.fail
/- Maps that are written out: keys of one scalar kind. -/
def fC:SV->SV->Option Bool
 | .int k a,.int k' b=>bif fV k k' then some (a==b)else none
 | .str a,.str b=>some (a==b)
 | .bool a,.bool b=>some (a==b)
 | _,_=>none
def kI(key:SV)(hit:Nat->OpM)(miss:OpM):List SV->Nat->OpM
 | [],_=>miss
 | x :: xs,i=>match fC key x with
  | some b=>.ite b (hit i) (kI key hit miss xs (i+1))
  | none=>.fail
def wk(P:Program)(kt:TypeId)(k:SV):Bool:=
 match P.underlying kt,k with
 | some (.int a),.int b _=>fV a b
 | some .string,.str _=>true
 | some .bool,.bool _=>true
 | _,_=>false
def wm{α:Type}:List α->Nat->α->List α
 | [],_,_=>[]
 | _ :: l,0,v=>v :: l
 | x :: l,n+1,v=>x :: wm l n v
def jH(P:Program)(t:TypeId)(m k v:SV)(nx:Nat):OpM:=
 match P.underlying t,m with
 | some (.map kt _),.mp y=>bif wk P kt k then .get y fun c=>match c with
   | .mpc ks vs=>bif Nat.beq ks.length vs.length then kI k (fun i=>.done .junk [(y,some (.mpc ks (wm vs i v)))] nx) (.done .junk [(y,some (.mpc (ks++[k]) (vs++[v])))] nx) ks 0 else .fail
   | _=>.fail
  else .fail
 | _,_=>.fail
/- Maps from numbers to truth values. -/
def bj:List (Int × Bool)->Int->Bool
 | [],_=>false
 | (a,b) :: l,k=>bif k==a then b else bj l k
def wn:List (Int × Bool)->Int->Bool
 | [],_=>false
 | (a,_) :: l,k=>bif k==a then true else wn l k
def iJ(k:Int)(v:Bool):List (Int × Bool)->List (Int × Bool)
 | []=>[(k,v)]
 | (a,b) :: l=>bif k==a then(a,v) :: l else(a,b) :: iJ k v l
def oW(P:Program)(t:TypeId)(m k v:SV)(nx:Nat):OpM:=
 match P.underlying t,m with
 | some (.map kt _),.mp y=>bif wk P kt k then .get y fun c=>match c with
   | .mpc ks vs=>bif Nat.beq ks.length vs.length then kI k (fun i=>.done .junk [(y,some (.mpc ks (wm vs i v)))] nx) (.done .junk [(y,some (.mpc (ks++[k]) (vs++[v])))] nx) ks 0 else .fail
   | .mpb kd kvs=>match k,v with
    | .int kd' a,.bool b=>bif fV kd' kd then .done .junk [(y,some (.mpb kd (iJ a b kvs)))] nx else .fail
    | _,_=>.fail
   | _=>.fail
  else .fail
 | _,_=>.fail
def M3      (P:Program)(t:TypeId)(m k:SV)(ok:Bool)(nx:Nat):OpM:=
 match P.underlying t,m with
 | some (.map kt et),.mp y=>bif wk   P kt k then
   match fP P et with
   | some z=>.get y fun c=>match c with
    | .mpc ks vs=>kI k (fun i=>match mq vs i with
      | some v=>.done (bif ok then .tup [v,.bool true]else v) [] nx
      | none=>.fail) (.done (bif ok then .tup [z,.bool false]else z) [] nx) ks 0
    | _=>.fail
   | none=>.fail
  else .fail
 | some (.map kt et),.nilm=>bif wk P kt k then
   match fP P et with
   | some z=>.done (bif ok then .tup [z,.bool false]else z) [] nx
   | none=>.fail
  else .fail
 | _,_=>.fail
def tE     (P:Program)(t:TypeId)(m k:SV)(ok:Bool)(nx:Nat):OpM:=
 match P.underlying t,m with
 | some (.map kt et),.mp y=>bif wk   P kt k then
   match fP P et with
   | some z=>.get y fun c=>match c with
    | .mpc ks vs=>kI k (fun i=>match mq vs i with
      | some v=>.done (bif ok then .tup [v,.bool true]else v) [] nx
      | none=>.fail) (.done (bif ok then .tup [z,.bool false]else z) [] nx) ks 0
    | .mpb kd kvs=>match k,z with
     | .int kd' a,.bool false=>bif fV kd' kd then .done (bif ok then .tup [.bool (bj kvs a),.bool (wn kvs a)]else .bool (bj kvs a)) [] nx else .fail
     | _,_=>.fail
    | _=>.fail
   | none=>.fail
  else .fail
 | some (.map kt et),.nilm=>bif wk P kt k then
   match fP P et with
   | some z=>.done (bif ok then .tup [z,.bool false]else z) [] nx
   | none=>.fail
  else .fail
 | _,_=>.fail
/- Strings and bytes. -/
def byteOf:SV->UInt8
 | .int _ n=>UInt8.ofNat n.toNat
 | _=>0
def D7(P:Program)(s d:TypeId)(x:SV)(nx:Nat):OpM:=
 match P.underlying s,P.underlying d,x with
 | some (.pointer t),some .unsafePointer,.ptr y o=>bif Nat.beq (P.cellsOf t) 0 then .fail else .get y fun c=>match c with
  | .cells _ cs=>bif Nat.blt o cs.length then .done (.ptr y o) [] nx else .fail
  | _=>.fail
 | some .unsafePointer,some (.pointer u),.ptr y o=>.get y fun c=>match c with
  | .cells T cs=>bif bi P u&&liesAt P P.depth T (cs.length / P.cellsOf T) o u 1 then .done (.ptr y o) [] nx else .fail
  | _=>.fail
 | _,_,_=>.fail
def lg(P:Program)(pt:TypeId)(p n:SV)(nx:Nat):OpM:=
 match P.underlying pt,p,n with
 | some (.pointer e),.qp y sz i off,.int .i64 m=>match P.underlying e with
  | some (.int .u8)=>bif Nat.beq (P.cellsOf e) 1&&Nat.beq sz 1&&Nat.beq i 0&&Nat.beq off 0 then .get y fun c=>match c with
    | .seq e' es=>bif Nat.beq e' e then .ite (decide (m=es.length)&&decide (0 < es.length)&&decide (es.length<=9223372036854775807)) (.done (.str (es.map byteOf)) [(y,none)] nx) .fail else .fail
    | _=>.fail
   else .fail
  | _=>.fail
 | _,_,_=>.fail
def lh(x:SV)(nx:Nat):OpM:=
 match x with
 | .qs y sz l n=>.ite (decide (0 < n)) (.done (.qp y sz l 0) [] nx) .fail
 | _=>.fail
def iZ(xs:List SV):Nat->List SV->List SV
 | _,[]=>[]
 | j,c :: cs=>.int .u8 (bif Nat.blt j xs.length then asI (xs.getD j .junk)else asI c) :: iZ xs (j+1) cs
def tF     (P:Program)(e t':TypeId)(y off m:Nat)(s:SV)(nx:Nat):OpM:=
 bif eC       P t'&&iI     P e&&qz    P e then
  gl P e (fun xs ys=>match ys with
   | []=>.get y fun c=>match c with
    | .cells T cs=>match en cs off m with
     | some part=>match cS cs off (iZ xs 0 part)with
      | some cs'=>bif kH part then .ite (decide (xs.length<=m)) (.done (.int .i64 xs.length) [(y,some (.cells T cs'))] nx) .fail else .fail
      | none=>.fail
     | none=>.fail
    | _=>.fail
   | _=>.fail) s
 else .fail
def D8   (P:Program)(t t':TypeId)(d s:SV)(nx:Nat):OpM:=
 match P.underlying t,d with
 | some (.slice e),.qs y sz l m=>bif eC P t'&&iI P e&&Nat.beq (P.cellsOf e) 1&&Nat.beq sz 1 then
   gl P e (fun xs ys=>match ys with
    | []=>.get y fun c=>match c with
     | .seq e' es=>bif Nat.beq e' e then .ite (decide (xs.length<=m)&&decide (l<=es.length)) (.done (.int .i64 xs.length) [(y,some (.seq e (es.take l++xs++es.drop (l+xs.length))))] nx) .fail else .fail
     | _=>.fail
    | _=>.fail) s
  else .fail
 | some (.slice e),.sl y sz off m=>bif Nat.beq sz 1 then tF P e t' y off m s nx else .fail
 | _,_=>.fail
def KQ(P:Program)(ts:List TypeId)(args:List SV)(nx:Nat):OpM:=
 match ts,args with
 | [t],[.int .i64 n]=>match P.underlying t with
  | some (.slice e)=>bif Nat.beq (P.cellsOf e) 1 then .ite (decide (0<=n)&&decide (n<=16777216)) (.done (.qs nx 1 0 n.toNat) [(nx,some (.seq e []))] (nx+1)) .fail else .fail
  | _=>.fail
 | _,_=>.fail
def tG(P:Program)(g:Nat)(args:List SV)(nx:Nat):OpM:=
 match P.funcs[g]? with
 | some fn=>bif fn.body.isNone&&fn.origin== "" then
   bif fn.name== "internal/bytealg.IndexByteString" then match args with
    | [.str l,.int .u8 c]=>.done (.int .i64 (Lib.indexByte l c.toNat.toUInt8)) [] nx
    | _=>.fail
   else bif fn.name== "internal/abi.NoEscape" then match args with
    | [x]=>.done x [] nx
    | _=>.fail
   else bif fn.name== "internal/bytealg.MakeNoZero" then KQ P fn.resultTypes.toList args nx
   else .fail
  else .fail
 | none=>.fail
def D9   (P:Program)(s d:TypeId)(x:SV)(nx:Nat):OpM:=
 match P.underlying s,P.underlying d with
 | some .string,some (.slice e)=>match P.underlying e,x with
  | some (.int .u8),.str l=>bif Nat.beq (P.cellsOf e) 1 then .done (.qs nx 1 0 l.length) [(nx,some (.seq e (l.map k9)))] (nx+1)else .fail
  | _,_=>.fail
 | some (.slice e),some .string=>match P.underlying e with
  | some (.int .u8)=>bif Nat.beq (P.cellsOf e) 1&&iI P e then match x with
    | .str _=>.fail
    | x=>gl P e (fun es ys=>match ys with
     | []=>.done (.str (es.map byteOf)) [] nx
     | _=>.fail) x
   else .fail
  | _=>.fail
 | _,_=>D7 P s d x nx
def KR(P:Program)(t:TypeId)(x:SV)(nx:Nat):OpM:=
 match P.underlying t,x with
 | some (.slice _),.qs _ _ _ n=>.done (.int .i64 n) [] nx
 | some (.slice _),.emp=>.done (.int .i64 0) [] nx
 | some (.slice _),.pnn _ es=>.done (.int .i64 es.length) [] nx
 | some (.map _ _),.mp y=>.get y fun c=>match c with
  | .mpc ks _=>.done (.int .i64 ks.length) [] nx
  | .mpb _ kvs=>.done (.int .i64 kvs.length) [] nx
  | _=>.fail
 | _,_=>.fail
def oX(mx:Bool)(x y:SV)(nx:Nat):OpM:=
 match x,y with
 | .int k a,.int k' b=>bif fV k k' then bif mx then .done (.int k (bif decide (a < b)then b else a)) [] nx else .done (.int k (bif decide (b < a)then b else a)) [] nx else .fail
 | _,_=>.fail
def qA(P:Program)(b:Builtin)(tys:List TypeId)(as:List SV)(nx:Nat):OpM:=
 match b,tys,as with
 | .append,t :: t' :: _,[s,x]=>tC P t t' s x nx
 | .len,t :: _,[x]=>KR P t x nx
 | .min,_,[x,y]=>oX false x y nx
 | .max,_,[x,y]=>oX true x y nx
 | .copy,t :: t' :: _,[d,s]=>D8 P t t' d s nx
 | .unsafeSliceData,_,[x]=>lh x nx
 | .unsafeString,t :: _,[x,n]=>lg P t x n nx
 | _,_,_=>.fail
def mA(P:Program)(t:TypeId)(ok:Bool)(nx:Nat):OpM:=
 bif ok then match fP P t with
  | some z=>.done (.tup [z,.bool false]) [] nx
  | none=>.fail
 else .fail
def tH(P:Program)(t:TypeId)(ok:Bool)(x:SV)(nx:Nat):OpM:=
 match P.underlying t,x with
 | some (.interface _),_=>.fail
 | none,_=>.fail
 | some _,.iface t' v=>bif Nat.beq t' t then .done (bif ok then .tup [v,.bool true]else v) [] nx else mA P t ok nx
 | some _,.nili=>mA P t ok nx
 | _,_=>.fail
def opX(P:Program)(o:Op)(as:List SV)(nx:Nat):OpM:=
 match o,as with
 | .makeInterface t _,[x]=>match P.underlying t with
  | some (.interface _)=>.fail
  | some _=>.done (.iface t x) [] nx
  | none=>.fail
 | .typeAssert _ _ t ok,[x]=>tH P t ok x nx
 | .load t _,[a]=>D6 P t a nx
 | .store t _ _,[a,v]=>xO P t a v nx
 | .nilCheck _,[.pel v off]=>.done (.pel v off) [] nx
 | .nilCheck _,[.qp y sz k off]=>.done (.qp y sz k off) [] nx
 | .fieldAddr t _ f,[x]=>ld P t x f nx
 | .indexAddr t _ _,[x,i]=>lc P t x i nx
 | .slice t _ lo hi mx,as=>xN P t lo.isSome hi.isSome mx.isSome as nx
 | .sliceToArrayPointer t _,[x]=>D5 P t x nx
 | .makeMap t _,[]=>match P.underlying t with
  | some (.map kt et)=>(match P.underlying kt,P.underlying et with
   | some (.int kd),some .bool=>.done (.mp nx) [(nx,some (.mpb kd []))] (nx+1)
   | _,_=>.done (.mp nx) [(nx,some (.mpc [] []))] (nx+1))
  | _=>.fail
 | .insert t _ _ _,[m,k,v]=>oW P t m k v nx
 | .mapUpdate t _ _ _,[m,k,v]=>oW P t m k v nx
 | .lookup t _ _ ok,[m,k]=>tE P t m k ok nx
 | .convert s d _,[x]=>D9 P s d x nx
 | .binOp op t _ _ _,[x,y]=>match P.underlying t,x,y,xL op with
  | some (.slice _),.pnn _ _,.nils,some b=>.done (.bool (!b)) [] nx
  | some (.slice _),.nils,.pnn _ _,some b=>.done (.bool (!b)) [] nx
  | some (.slice _),.sl _ _ _ (_+1),.nils,some b=>.done (.bool (!b)) [] nx
  | some (.slice _),.qs _ _ _ n,.nils,some b=>.ite (decide (0 < n)) (.done (.bool (!b)) [] nx) .fail
  | some (.pointer e),.ptr a i,.ptr b j,some r=>bif bi P e&&Nat.beq a b&&Nat.beq i j then .done (.bool r) [] nx else .fail
  | _,_,_,_=>.fail
 | .unOp .xor _ _,[.int k n]=>.done (.int k (k.wrap (BitVec.ofInt k.bits (if k.signed then -1 else k.max) ^^^ BitVec.ofInt k.bits n).toNat)) [] nx
 | .call c,as=>match c.callee with
  | .builtin b=>qA P b c.argTypes.toList as nx
  | .value _=>match as with
   | .fn (.func g) [] [] :: args=>tG P g args nx
   | _=>.fail
  | _=>.fail
 | _,_=>.fail
def qB(rs:List Nat)(n n':Nat):List (Nat × Option Chunk)->Bool
 | []=>true
 | (x,_) :: l=>(fB x rs||(Nat.ble n x&&Nat.blt x n'))&&qB rs n n' l
def qC(n:Nat):OpM->List Nat->OpM
 | .done r ups nx,rs=>bif Nat.ble n nx&&qB rs n nx ups then .done r ups nx else .fail
 | .get x k,rs=>.get x fun c=>qC n (k c) (x :: rs)
 | .ite b t e,rs=>.ite b (qC n t rs) (qC n e rs)
 | .fail,_=>.fail
def opM(P:Program)(κ:Nat->Option ag)(o:Oper)(ev:Operand->SV)(nx:Nat):OpM:=
 match oz P κ o ev nx with
 | .fail=>qC nx (opX P o.op (o.op.operands.toList.map ev) nx) []
 | m=>m
/- States. -/
structure St where
 tm:Tr SV
 size:Nat
 hp:Tr Chunk
 nx:Nat
 m:Nat
 dirty:List Nat
 sp:Bool
 rd:Option Nat
def St.tmp(s:St)(t:Nat):SV:=match s.tm.get t with
 | some v=>v
 | none=>.junk
def St.ev(s:St):Operand->SV
 | .tmp t=>s.tmp t
 | .const v=>ofValue v
 | .func f=>.fn (.func f) [] []
 | .global _=>.junk
def St.put(s:St):Option Nat->SV->St
 | none,_=>s
 | some d,v=>{s with tm:=s.tm.set 14 d (some v)}
def si:List (Nat × Option Chunk)->Tr Chunk->Tr Chunk
 | [],h=>h
 | (x,c) :: l,h=>si l (h.set 20 x c)
def gm(m:Nat):List (Nat × Option Chunk)->List Nat->List Nat
 | [],d=>d
 | (x,_) :: l,d=>gm m l (bif Nat.blt x m&& !fB x d then x :: d else d)
def St.upd(s:St)(ups:List (Nat × Option Chunk))(nx:Nat):St:=
 {s with hp:=si ups s.hp,nx:=nx,dirty:=gm s.m ups s.dirty}
structure Foot where
 i:Nat
 reads:List Nat
 writes:List Nat
def fW:List Nat->List Nat->Bool
 | [],_=>false
 | x :: l,m=>fB x m||fW l m
def li:List Operand->List Nat
 | []=>[]
 | .tmp t :: l=>t :: li l
 | _ :: l=>li l
def lj(a b:Foot):Bool:= !fW a.writes b.writes&& !fW a.writes b.reads&& !fW a.reads b.writes
def xP(bs:List Nat)(o:Oper):Nat:=o.after.toList.foldl (fun s e=>bif Region.binds .any e then s||| 2 ^ e.on||| bs.getD e.on 0 else s) 0
def cn:List Oper->List Nat->List Nat
 | [],bs=>bs
 | o :: os,bs=>cn os (bs++[xP bs o])
def fk(bs:List Nat):List Foot->Bool
 | []=>true
 | f :: l=>l.all (fun g=>(bs.getD f.i 0).testBit g.i||lj f g)&&fk bs l
def nB(all:List Oper)(x y:Oper):Bool:=
 let iS (o:Oper):List Nat:=(match o.guard with
  | some (g,_)=>match mq all g with
   | some og=>match og.dst with
    | some d=>[d]
    | none=>[]
   | none=>[]
  | none=>[])++li o.op.operands.toList
 (match x.dst with
  | some d=> !fB d (iS y)&&(match y.dst with
   | some e=> !Nat.beq d e
   | none=>true)
  | none=>true)&&
 (match y.dst with
  | some d=> !fB d (iS x)
  | none=>true)
def kf(all:List Oper)(b:Nat)(o:Oper):List Oper->Nat->Bool
 | [],_=>true
 | p :: l,i=>(b.testBit i||nB all p o)&&kf all b o l (i+1)
def di(all:List Oper)(bs:List Nat):List Oper->List Oper->Nat->Bool
 | _,[],_=>true
 | pre,o :: os,j=>
  kf all (bs.getD j 0) o pre 0&&o.after.toList.all (fun e=> !Region.binds .any e||Nat.blt e.on j)&&
   (match o.guard with
    | some (g,_)=>(bs.getD j 0).testBit g
    | none=>true)&&di all bs (pre++[o]) os (j+1)
section
variable (P:Program) (κ:Nat->Option ag)
def sj(s:St):Option Nat->Bool
 | none=>true
 | some d=>Nat.blt d s.size
/- Without branching: where nothing is written, both sides of a guard are reckoned. -/
abbrev bE:=List (Nat × Bool)
def bD:List (Nat × bE)->Nat->Option bE
 | [],_=>none
 | (t,c) :: l,x=>bif Nat.beq t x then some c else bD l x
def iK:bE->bE->Bool
 | [],[]=>true
 | (a,b) :: l,(c,d) :: m=>Nat.beq a c&&(b==d)&&iK l m
 | _,_=>false
def qD(a:bE):bE->Bool
 | []=>iK a []
 | p :: l=>iK a (p :: l)||qD a l
def dw(env:List (Nat × bE))(L:bE):List Operand->Bool
 | []=>true
 | .tmp t :: l=>(match bD env t with
  | some c=>qD c L
  | none=>true)&&dw env L l
 | _ :: l=>dw env L l
def fX(env:List (Nat × bE))(L:bE)(o:Op):Bool:=
 match o with
 | .pick (.tmp c) a b=>dw env L [.tmp c]&&dw env ((c,true) :: L) [a]&&dw env ((c,false) :: L) [b]
 | o=>dw env L o.operands.toList
def tI(t:Bool):SV->SV->Option SV
 | .bool x,.bool y=>some (.bool (bif t then x else y))
 | .int k x,.int k' y=>bif fV k k' then some (.int k (bif t then x else y))else none
 | .str x,.str y=>some (.str (bif t then x else y))
 | _,_=>none
def n7(h:Tr Chunk)(nx:Nat):OpM->Option SV
 | .done r ups nx'=>match ups with
  | []=>bif Nat.beq nx' nx then some r else none
  | _=>none
 | .get x f=>match h.get x with
  | some c=>n7 h nx (f c)
  | none=>none
 | _=>none
def ll(P:Program)(κ:Nat->Option ag)(o:Oper)(s:St):Option SV:=
 match o.op with
 | .pick c a b=>match s.ev c with
  | .bool t=>tI t (s.ev a) (s.ev b)
  | _=>none
 | _=>n7 s.hp s.nx (opM P κ o s.ev s.nx)
def mB(env:List (Nat × bE))(s:St):Option Nat->Bool
 | none=>true
 | some d=>Nat.blt d s.size&&(match bD env d with
  | some _=>false
  | none=>true)
def kg(all:List Oper)(env:List (Nat × bE))(s:St):Option (Nat × Bool)->Option bE
 | none=>some []
 | some (j,w)=>match mq all j with
  | some oj=>match oj.dst with
   | some d=>match bD env d,s.tmp d with
    | some c,.bool _=>bif Nat.blt d s.size then some ((d,w) :: c)else none
    | _,_=>none
   | none=>none
  | none=>none
def nD(env:List (Nat × bE))(L:bE):Option Nat->List (Nat × bE)
 | none=>env
 | some d=>(d,L) :: env
def kJ(all:List Oper):List Oper->List (Nat × bE)->St->Option (List (Nat × bE) × St)
 | [],env,s=>some (env,s)
 | o :: os,env,s=>
  match kg all env s o.guard with
  | some L=>bif mB env s o.dst&&fX env L o.op then
    match ll P κ o s with
    | some r=>kJ all os (nD env L o.dst) (s.put o.dst r)
    | none=>none
   else none
  | none=>none
def dE:List (Nat × bE)->St->St
 | [],s=>s
 | (_,[]) :: l,s=>dE l s
 | (t,_ :: _) :: l,s=>dE l (s.put (some t) .junk)
def mC:List Oper->Bool
 | []=>false
 | o :: l=>(match o.guard with
  | some _=>true
  | none=>false)||mC l
def ki(ops:List Oper)(draw:Bool)(s:St):Option St:=
 bif s.sp&&mC ops&&(!draw||di ops (cn ops []) [] ops 0)then
  match kJ P κ ops ops [] s with
  | some (env,s')=>some (dE env s')
  | none=>none
 else none
end
/- Carrying out, in the style of continuations: each open test stands at the head. -/
section
variable {R:Type} (fl:R)
def fq(h:Tr Chunk)(k:SV->List (Nat × Option Chunk)->Nat->List Nat->R):OpM->List Nat->R
 | .done r ups nx,rs=>k r ups nx rs
 | .get x f,rs=>match h.get x with
  | some c=>fq h k (f c) (rs++[x])
  | none=>fl
 | .ite b t e,rs=>bif b then fq h k t rs else fq h k e rs
 | .fail,_=>fl
def tJ    (all:List Oper)(s:St)(k:St->Bool->R):Option (Nat × Bool)->R
 | none=>k s true
 | some (j,want)=>
  match mq all j with
  | some oj=>match oj.dst with
   | some d=>match s.tmp d with
    | .bool b=>
     bif Nat.blt d s.size then
      bif b then k (s.put (some d) (.bool true)) want else k (s.put (some d) (.bool false)) (!want)
     else fl
    | .tup []=>bif Nat.blt d s.size then k s false else fl
    | _=>fl
   | none=>fl
  | none=>fl
def dG:List SV->Nat->Tr SV->Tr SV
 | [],_,t=>t
 | v :: vs,i,t=>dG vs (i+1) (t.set 14 i (some v))
def ep(m:Nat):List Nat->Bool
 | []=>true
 | x :: l=>Nat.blt x m&&ep m l
def bk(s:St):Nat->Nat->List SV
 | 0,_=>[]
 | n+1,i=>s.tmp i :: bk s n (i+1)
def dS:List Nat->List SV->Tr SV->Tr SV
 | p :: ps,v :: vs,t=>dS ps vs (t.set 14 p (some v))
 | _,_,t=>t
def qE:Ex->LS
 | .normal=>.ready
 | e=>.done e
def qF:Ex->Bool
 | .normal=>true
 | _=>false
variable (P:Program) (κ:Nat->Option ag) (ι:Nat->Bool)
def mD(s:St):ResultVar->Option SV
 | .tmp t=>bif Nat.blt t s.size then some (s.tmp t)else none
 | .cell p t=>match s.tmp p with
  | .ptr x off=>match s.hp.get x with
   | some (.cells _ vs)=>dR P t vs off
   | _=>none
  | _=>none
def bR(s:St):List ResultVar->Option (List SV)
 | []=>some []
 | r :: rs=>match mD P s r,bR s rs with
  | some v,some vs=>some (v :: vs)
  | _,_=>none
def cP:List SV->SV
 | [v]=>v
 | vs=>.tup vs
abbrev Rcr(R:Type):=Code->St->(Ex->St->R)->R
def nF    (rec:Rcr R)(f:Nat)(args:List SV)(s:St)(k:SV->St->R):R:=
 match P.funcs[f]? with
 | some fn=>match fn.body with
  | some c=>
   bif Nat.ble args.length fn.ntmps&&Nat.blt fn.ntmps 16000&& !(fn.name== "runtime.NumGoroutine")then
    rec c {s with tm:=dG args 0 .lf,size:=fn.ntmps,rd:=none} fun e s'=>
     match e with
     | .exit _=>fl
     | _=>match bR P s' fn.results.toList with
      | some vs=>k (cP vs) {s' with tm:=s.tm,size:=s.size,rd:=s.rd}
      | none=>fl
   else fl
  | none=>fl
 | none=>fl
def tK     (rec:Rcr R)(x:Nat)(args:List SV)(s:St)(k:Bool->St->R):R:=
 match s.hp.get x with
 | some (.loopr .ready vs ps asg bdy)=>
  bif Nat.beq ps.size args.length&&ep   vs.length ps.toList&&Nat.blt vs.length 16000 then
   rec asg {s with tm:=dS ps.toList args (dG vs 0 .lf),size:=vs.length,rd:=some x} fun e s1=>
    match e with
    | .normal=>match s1.hp.get x with
     | some (.loopr .ready vs1 ps1 asg1 bdy1)=>
      rec bdy (s1.upd [(x,some (.loopr .busy vs1 ps1 asg1 bdy1))] s1.nx) fun e s2=>
       match s2.hp.get x with
       | some (.loopr .busy vs2 ps2 asg2 bdy2)=>k (qF e) {s2.upd [(x,some (.loopr (qE e) vs2 ps2 asg2 bdy2))] s2.nx with tm:=s.tm,size:=s.size,rd:=s.rd}
       | _=>fl
     | _=>fl
    | _=>fl
  else fl
 | _=>fl
inductive CallKind where
 | plain
 | fn (f:Nat) (args:List SV)
 | yl (x:Nat) (args:List SV)
def qG(o:Oper)(s:St):CallKind:=
 match o.op with
 | .call c=>match c.callee with
  | .value f=>match s.ev f with
   | .yl x=>.yl x (c.args.toList.map s.ev)
   | .fn (.func g) first caps=>bif ι g then .fn g (first++(c.args.toList.map s.ev++caps))else .plain
   | _=>.plain
  | .invoke r m=>match s.ev r with
   | .iface t v=>match mw P t m with
    | some g=>bif ι g then .fn g (v :: c.args.toList.map s.ev)else .plain
    | none=>.plain
   | _=>.plain
  | _=>.plain
 | _=>.plain
def Ea(rec:Rcr R)(o:Oper)(s:St)(k:St->R):R:=
 match qG P ι o s with
 | .plain=>fq fl s.hp (fun r ups nx _=>bif Nat.blt nx 1000000 then k ((s.upd ups nx).put o.dst r)else fl) (opM P κ o s.ev s.nx) []
 | .fn f args=>nF fl P rec f args s fun r s'=>k (s'.put o.dst r)
 | .yl x args=>tK fl rec x args s fun b s'=>k (s'.put o.dst (.bool b))
def Eb(rec:Rcr R)(all:List Oper)(k:St->R):List Oper->St->R
 | [],s=>k s
 | o :: os,s=>
  bif sj s o.dst then
   tJ fl all s (fun s go=>
    bif go then Ea fl P κ ι rec o s (fun s=>Eb rec all k os s)
    else Eb rec all k os (s.put o.dst (.tup []))) o.guard
  else fl
def Ec(all:List Oper)(k:St->List Foot->R):List Oper->Nat->St->List Foot->R
 | [],_,s,acc=>k s acc
 | o :: os,i,s,acc=>
  bif sj s o.dst then
   tJ fl all s (fun s go=>
    bif go then fq fl s.hp (fun r ups nx rs=>bif Nat.blt nx 1000000 then Ec all k os (i+1) ((s.upd ups nx).put o.dst r) (⟨i,rs,ups.map (·.1)⟩ :: acc)else fl) (opM P κ o s.ev s.nx) []
    else Ec all k os (i+1) (s.put o.dst (.tup [])) acc) o.guard
  else fl
def zz(rec:Rcr R)(ops:Array Oper)(draw:Bool)(k:St->R)(s:St):R:=
 bif draw then
  bif di ops.toList (cn ops.toList []) [] ops.toList 0 then
   Ec fl P κ ops.toList (fun s acc=>bif fk (cn ops.toList []) acc then k s else fl) ops.toList 0 s []
  else fl
 else Eb fl P κ ι rec ops.toList k ops.toList s
def mE(rec:Rcr R)(ops:Array Oper)(draw:Bool)(k:St->R)(s:St):R:=
 match ki P κ ops.toList draw s with
 | some s'=>k s'
 | none=>zz fl P κ ι rec ops draw k s
def rdOk(s:St):Bool:=
 match s.rd with
 | none=>true
 | some y=>match s.hp.get y with
  | some (.loopr _ _ _ _ _)=>true
  | _=>false
def dU   (rec:Rcr R):Rcr R
 | .skip,s,k=>k .normal s
 | .region _ ops draw,s,k=>mE fl P κ ι rec ops draw (k .normal) s
 | .seq a b,s,k=>dU rec a s (fun e s=>match e with
  | .normal=>dU rec b s k
  | e=>k e s)
 | .cond c t e,s,k=>
  match s.ev c with
  | .bool b=>bif b then dU rec t s k else dU rec e s k
  | _=>fl
 | .block id c,s,k=>dU rec c s (fun e s=>match e with
  | .exit j=>bif Nat.beq j id then k .normal s else k (.exit j) s
  | e=>k e s)
 | .loop c,s,k=>dU rec c s (fun e s=>match e with
  | .normal=>rec (.loop c) s k
  | e=>k e s)
 | .scope c,s,k=>dU rec c s k
 | .exit id,s,k=>k (.exit id) s
 | .label _,s,k=>k .normal s
 | .ret,s,k=>k .ret s
 | .rangeFunc g ps asg bdy,s,k=>
  match s.ev g with
  | .fn (.func f) first caps=>
   bif rdOk s&&Nat.blt (s.nx+1) 1000000 then
    nF fl P rec f (first++([.yl s.nx]++caps)) (s.upd [(s.nx,some (.loopr .ready (bk s s.size 0) ps asg bdy))] (s.nx+1)) fun _ s1=>
     match s1.hp.get s.nx with
     | some (.loopr .ready _ _ _ _)=>k .normal (s1.upd [(s.nx,none)] s1.nx)
     | some (.loopr (.done e) _ _ _ _)=>k e (s1.upd [(s.nx,none)] s1.nx)
     | _=>fl
   else fl
  | _=>fl
 | _,_,_=>fl
def exec:Nat->Rcr R
 | 0,_,_,_=>fl
 | n+1,c,s,k=>dU fl P κ ι (exec n) c s k
end
/- Loops by what is known of them: 'ins': the temporaries that a round is told, 'outs': those that are told behind the loop, 'keep': those that no round touches. -/
structure LEnt where
 ins:List Nat
 outs:List Nat
 keep:List Nat
 size:Nat
 code:Code
 s:ag
abbrev cQ:=String->Option LEnt
def Ed:Int->Ex
 | .ofNat 0=>.normal
 | .ofNat 1=>.ret
 | .ofNat (n+2)=>.exit n
 | .negSucc _=>.ret
def iL:Ex->Int
 | .normal=>0
 | .ret=>1
 | .exit n=>((n+2:Nat):Int)
def qH:List Nat->St->Tr SV->Tr SV
 | [],_,t=>t
 | x :: l,s,t=>qH l s (t.set 14 x (some (s.tmp x)))
def aM(T:cQ):Code->Code
 | .seq a b=>.seq (aM T a) (aM T b)
 | .cond c a b=>.cond c (aM T a) (aM T b)
 | .block id c=>.block id (aM T c)
 | .loop c=>.loop (aM T c)
 | .scope c=>.scope (aM T c)
 | .refuse w=>match T w with
  | some e=>.loop e.code
  | none=>.refuse w
 | c=>c
def eD:Code->Option Nat
 | .region id _ _=>some id
 | .seq a b=>match eD a with
  | some r=>some r
  | none=>eD b
 | .cond _ a b=>match eD a with
  | some r=>some r
  | none=>eD b
 | .block _ c=>eD c
 | .loop c=>eD c
 | .scope c=>eD c
 | _=>none
def Ee:List (Nat × String)->Nat->Option String
 | [],_=>none
 | (r,w) :: l,x=>bif Nat.beq r x then some w else Ee l x
def bF(ks:List (Nat × String)):Code->Code
 | .seq a b=>.seq (bF ks a) (bF ks b)
 | .cond c a b=>.cond c (bF ks a) (bF ks b)
 | .block id c=>.block id (bF ks c)
 | .scope c=>.scope (bF ks c)
 | .loop c=>match eD c with
  | some r=>match Ee ks r with
   | some w=>.refuse w
   | none=>.loop (bF ks c)
  | none=>.loop (bF ks c)
 | c=>c
def bx(r:Nat):Code->Option Code
 | .seq a b=>match bx r a with
  | some c=>some c
  | none=>bx r b
 | .cond _ a b=>match bx r a with
  | some c=>some c
  | none=>bx r b
 | .block _ c=>bx r c
 | .scope c=>bx r c
 | .loop c=>match eD c with
  | some x=>bif Nat.beq x r then some c else bx r c
  | none=>bx r c
 | _=>none
section
variable {R:Type} (fl:R) (P:Program) (κ:Nat->Option ag) (ι:Nat->Bool) (T:cQ)
def lm(e:LEnt)(outs:List SV)(ups:List (Nat × Option Chunk))(nx:Nat)(s:St):St:={s.upd ups nx with tm:=dS e.outs outs (qH e.keep s .lf)}
def wo   (e:LEnt)(s:St)(k:Ex->St->R):R:=
 match s.rd with
 | some _=>fl
 | none=>
  bif Nat.beq s.size e.size&&ep s.size e.ins&&ep s.size e.outs&&ep s.size e.keep then
   fq fl s.hp (fun r ups nx _=>bif Nat.blt nx 1000000 then
    (match r with
     | .tup (.int _ c :: outs)=>bif Nat.beq outs.length e.outs.length then k (Ed c) (lm e outs ups nx s)else fl
     | _=>fl)else fl) (sh e.s (e.ins.map s.tmp) s.nx) []
  else fl
def d7(recL rec:Rcr R):Rcr R
 | .skip,s,k=>k .normal s
 | .region _ ops draw,s,k=>mE fl P κ ι rec ops draw (k .normal) s
 | .seq a b,s,k=>d7 recL rec a s (fun e s=>match e with
  | .normal=>d7 recL rec b s k
  | e=>k e s)
 | .cond c t e,s,k=>
  match s.ev c with
  | .bool b=>bif b then d7 recL rec t s k else d7 recL rec e s k
  | _=>fl
 | .block id c,s,k=>d7 recL rec c s (fun e s=>match e with
  | .exit j=>bif Nat.beq j id then k .normal s else k (.exit j) s
  | e=>k e s)
 | .loop c,s,k=>d7 recL rec c s (fun e s=>match e with
  | .normal=>recL (.loop c) s k
  | e=>k e s)
 | .scope c,s,k=>d7 recL rec c s k
 | .exit id,s,k=>k (.exit id) s
 | .label _,s,k=>k .normal s
 | .ret,s,k=>k .ret s
 | .rangeFunc g ps asg bdy,s,k=>dU fl P κ ι rec (.rangeFunc g ps asg bdy) s k
 | .refuse w,s,k=>match T w with
  | some e=>wo fl e s k
  | none=>fl
 | _,_,_=>fl
def zA:Nat->Rcr R
 | 0,_,_,_=>fl
 | n+1,c,s,k=>d7 fl P κ ι T (zA n) (exec fl P κ ι n) c s k
end
/- A function's body. -/
def ln:HpL->Tr Chunk->Tr Chunk
 | [],t=>t
 | (x,c) :: l,t=>ln l (t.set 20 x (some c))
def cI:HpL->Nat->Bool
 | [],_=>true
 | (x,_) :: l,i=>Nat.beq x i&&cI l (i+1)
def dx(m:Nat):HpL->Bool
 | []=>true
 | (_,c) :: l=>ep m (aJ c)&&dx m l
def bU(sp:Bool)(f:Func)(args:List SV)(H:HpL):St:=
 {tm:=dG args 0 .lf,size:=f.ntmps,hp:=ln H .lf,nx:=H.length,m:=H.length,dirty:=[],sp:=sp,rd:=none}
def cr(h:Tr Chunk)(m:Nat):Nat->List Nat->List Nat->Option (List Nat)
 | 0,_,_=>none
 | _+1,[],acc=>some acc
 | d+1,x :: todo,acc=>
  bif Nat.blt x m||fB x acc then cr h m d todo acc
  else match h.get x with
   | some c=>cr h m d (aJ c++todo) (acc++[x])
   | none=>none
def bQ(h:Tr Chunk):List Nat->List Nat
 | []=>[]
 | x :: l=>match h.get x with
  | some c=>aJ c++bQ h l
  | none=>bQ h l
def bz(ns:List Nat)(m:Nat)(x:Nat):Nat:=bif Nat.blt x m then x else m+eJ ns x
def fg(h:Tr Chunk)(f:Nat->Nat):List Nat->List (Nat × Option Chunk)
 | []=>[]
 | x :: l=>(x,match h.get x with
  | some c=>some (br f c)
  | none=>none) :: fg h f l
def eb(h:Tr Chunk)(f:Nat->Nat):List Nat->List (Nat × Option Chunk)
 | []=>[]
 | x :: l=>match h.get x with
  | some c=>(f x,some (br f c)) :: eb h f l
  | none=>eb h f l
def fY(P:Program)(f:Func)(s:St):CTree:=
 match bR P s f.results.toList with
 | some vs=>
  match cr s.hp s.m 2000 (ak (cP vs)++bQ s.hp s.dirty) []with
  | some ns=>.ret (bq (bz ns s.m) (cP vs)) (fg s.hp (bz ns s.m) s.dirty++eb s.hp (bz ns s.m) ns)
  | none=>.fail
 | none=>.fail
def zB(v:SV)(s:St):CTree:=
 match cr s.hp s.m 2000 (ak v++bQ s.hp s.dirty) []with
 | some ns=>.ret (bq (bz ns s.m) v) (fg s.hp (bz ns s.m) s.dirty++eb s.hp (bz ns s.m) ns)
 | none=>.fail
def jI:List (Nat × Option Chunk)->Bool
 | []=>true
 | (_,some c) :: l=>iG c&&jI l
 | (_,none) :: l=>jI l
def jJ:HpL->Bool
 | []=>true
 | (_,c) :: l=>iG c&&jJ l
def qI(s:St):List Nat->Bool
 | []=>true
 | t :: l=>(match s.tmp t with
  | .opq n=>Nat.beq n t
  | _=>false)&&qI s l
def kj(e:LEnt)(ex:Ex)(s:St):CTree:=
 bif qI s e.keep&&ce (e.outs.map s.tmp)then
  match zB (.tup (.int .i64 (iL ex) :: e.outs.map s.tmp)) s with
  | .ret v ups=>bif jI ups then .ret v ups else .fail
  | _=>.fail
 else .fail
def mF:List Nat->Tr SV->Tr SV
 | [],t=>t
 | x :: l,t=>mF l (t.set 14 x (some (.opq x)))
def dj(sp:Bool)(e:LEnt)(args:List SV)(H:HpL):St:=
 {tm:=dS e.ins args (mF e.keep .lf),size:=e.size,hp:=ln H .lf,nx:=H.length,m:=H.length,dirty:=[],sp:=sp,rd:=none}
def ay(P:Program)(κ:Nat->Option ag)(ι:Nat->Bool)(T:cQ)(sp:Bool)(fuel:Nat)(e e':LEnt)(c:Code)(args:List SV)(H:HpL):CTree:=
 bif cI H 0&&dx H.length H&&Nat.beq args.length e.ins.length&&Nat.blt e.size 16000&&Nat.blt H.length 1000000&&ep e.size e.ins&&ep e.size e.keep&&ep e.size e.outs&&ce args&&jJ H&&ep H.length (aF args)then
  zA .fail P κ ι T fuel c (dj sp e args H) (fun ex s=>match ex with
   | .normal=>wo .fail e' s (kj e)
   | ex=>kj e ex s)
 else .fail
def bV(P:Program)(κ:Nat->Option ag)(ι:Nat->Bool)(T:cQ)(sp:Bool)(fuel:Nat)(f:Func)(c:Code)(args:List SV)(H:HpL):CTree:=
 bif cI H 0&&dx H.length H&&Nat.ble args.length f.ntmps&&Nat.blt f.ntmps 16000&&Nat.blt H.length 1000000 then
  zA .fail P κ ι T fuel c (bU sp f args H) (fun e s=>match e with
   | .exit _=>.fail
   | _=>fY P f s)
 else .fail
def n8(P:Program)(κ:Nat->Option ag)(ι:Nat->Bool)(sp:Bool)(fuel:Nat)(f:Func)(args:List SV)(H:HpL):CTree:=
 match f.body with
 | some c=>
  bif cI H 0&&dx H.length H&&Nat.ble args.length f.ntmps&&Nat.blt f.ntmps 16000&&Nat.blt H.length 1000000 then
   exec .fail P κ ι fuel c (bU sp f args H) (fun e s=>match e with
    | .exit _=>.fail
    | _=>fY P f s)
  else .fail
 | none=>.fail
def ae:CTree->Option (SV × List (Nat × Option Chunk))
 | .ret v ups=>some (v,ups)
 | .ite b t e=>if b then ae t else ae e
 | .fail=>none
end Go.Am
namespace Go.Am
abbrev Th:=Nat->Option (Nat × Nat)
def eG:Th:=fun _=>none
def om0:Nat->Value:=fun _=>undef
inductive VRel' (P:Program) (w:World) (Im:Nat->Prop):(Nat->Value)->Th->SV->Value->Prop
 | junk {ω:Nat->Value} {θ:Th} {u:Value}:VRel' P w Im ω θ .junk u
 | opq {ω:Nat->Value} {θ:Th} {n:Nat}:VRel' P w Im ω θ (.opq n) (ω n)
 | bool {ω:Nat->Value} {θ:Th} {b:Bool}:VRel' P w Im ω θ (.bool b) (.bool b)
 | int {ω:Nat->Value} {θ:Th} {k:IntKind} {n:Int}:VRel' P w Im ω θ (.int k n) (.int k n)
 | str {ω:Nat->Value} {θ:Th} {l:List UInt8} {s:ByteArray}:s.data.toList=l->VRel' P w Im ω θ (.str l) (.string s)
 | ptr {ω:Nat->Value} {θ:Th} {x off b N:Nat}:θ x=some (b,N)->VRel' P w Im ω θ (.ptr x off) (.pointer (some ⟨b,off,none⟩))
 | nilp {ω:Nat->Value} {θ:Th}:VRel' P w Im ω θ .nilp (.pointer none)
 | pel {ω:Nat->Value} {θ:Th} {v:SV} {off:Nat} {u:Value} {a base:Nat}:VRel' P w Im om0 eG v u->Im a->
   (∀ (d:Nat) (c:Value),u.cells[d]? =some c->w.cell? ⟨a,base+d,none⟩=some c)->VRel' P w Im ω θ (.pel v off) (.pointer (some ⟨a,base+off,none⟩))
 | sl {ω:Nat->Value} {θ:Th} {x sz off len b N cap:Nat}:θ x=some (b,N)->off+cap * sz<=N->len<=cap->
   VRel' P w Im ω θ (.sl x sz off len) (.slice (some ⟨b,off,none⟩) len cap)
 | slnil {ω:Nat->Value} {θ:Th} {x sz:Nat}:VRel' P w Im ω θ (.sl x sz 0 0) (.slice none 0 0)
 | nils {ω:Nat->Value} {θ:Th}:VRel' P w Im ω θ .nils (.slice none 0 0)
 | psl {ω:Nat->Value} {θ:Th} {e:TypeId} {es:List SV} {p:Option Addr} {n cap:Nat} (us:Nat->Value):es.length=n->n<=cap/\(p=none->cap=0)->(∀ v ∈ es,expand P e v=v)->
   (∀ (i:Nat) (v:SV),es[i]? =some v->VRel' P w Im om0 eG v (us i))->
   (n≠0->∃ a off,p=some ⟨a,off,none⟩/\Im a/\∀ i < n,(us i).cells.size=P.cellsOf e/\
    ∀ (d:Nat) (c:Value),(us i).cells[d]? =some c->w.cell? ⟨a,off+i * P.cellsOf e+d,none⟩=some c)->
   VRel' P w Im ω θ (.psl e es) (.slice p n cap)
 | pnn {ω:Nat->Value} {θ:Th} {e:TypeId} {es:List SV} {a:Addr} {n cap:Nat}:VRel' P w Im ω θ (.psl e es) (.slice (some a) n cap)->VRel' P w Im ω θ (.pnn e es) (.slice (some a) n cap)
 | emp {ω:Nat->Value} {θ:Th} {p:Option Addr}:VRel' P w Im ω θ .emp (.slice p 0 0)
 | qs {ω:Nat->Value} {θ:Th} {x sz l n b N cap:Nat}:θ x=some (b,N)->(l+cap) * sz<=N->n<=cap->VRel' P w Im ω θ (.qs x sz l n) (.slice (some ⟨b,l * sz,none⟩) n cap)
 | qsnil {ω:Nat->Value} {θ:Th} {x sz l n:Nat} {p:Option Addr}:n=0->VRel' P w Im ω θ (.qs x sz l n) (.slice p 0 0)
 | qp {ω:Nat->Value} {θ:Th} {x sz i off b N:Nat}:θ x=some (b,N)->VRel' P w Im ω θ (.qp x sz i off) (.pointer (some ⟨b,i * sz+off,none⟩))
 | mp {ω:Nat->Value} {θ:Th} {x b N:Nat}:θ x=some (b,N)->VRel' P w Im ω θ (.mp x) (.map (some b))
 | nilm {ω:Nat->Value} {θ:Th}:VRel' P w Im ω θ .nilm (.map none)
 | yl {ω:Nat->Value} {θ:Th} {x b N:Nat}:θ x=some (b,N)->VRel' P w Im ω θ (.yl x) (.func (.yield b) #[] #[])
 | fn {ω:Nat->Value} {θ:Th} {f:Fn} {as bs:List SV} {us vs:Array Value}:as.length=us.size->bs.length=vs.size->
   (∀ (i:Nat) (v:SV) (u:Value),as[i]? =some v->us[i]? =some u->VRel' P w Im ω θ v u)->(∀ (i:Nat) (v:SV) (u:Value),bs[i]? =some v->vs[i]? =some u->VRel' P w Im ω θ v u)->
   VRel' P w Im ω θ (.fn f as bs) (.func f us vs)
 | nilf {ω:Nat->Value} {θ:Th}:VRel' P w Im ω θ .nilf .nilFunc
 | iface {ω:Nat->Value} {θ:Th} {t:TypeId} {v:SV} {u:Value}:VRel' P w Im ω θ v u->VRel' P w Im ω θ (.iface t v) (.iface t u)
 | nili {ω:Nat->Value} {θ:Th}:VRel' P w Im ω θ .nili .nilIface
 | agg {ω:Nat->Value} {θ:Th} {cs:List SV} {us:Array Value}:cs.length=us.size->(∀ (i:Nat) (v:SV) (u:Value),cs[i]? =some v->us[i]? =some u->VRel' P w Im ω θ v u)->
   VRel' P w Im ω θ (.agg cs) (.agg us)
 | tup {ω:Nat->Value} {θ:Th} {cs:List SV} {us:Array Value}:cs.length=us.size->(∀ (i:Nat) (v:SV) (u:Value),cs[i]? =some v->us[i]? =some u->VRel' P w Im ω θ v u)->
   VRel' P w Im ω θ (.tup cs) (.tuple us)
abbrev VRel(P:Program)(ω:Nat->Value)(w:World)(Im:Nat->Prop)(θ:Th)(v:SV)(u:Value):Prop:=VRel' P w Im ω θ v u
structure LRel (P:Program) (ω:Nat->Value) (w:World) (Im:Nat->Prop) (θ:Th) (cs:List SV) (us:List Value):Prop where
 len:cs.length=us.length
 at_:∀ (i:Nat) (v:SV) (u:Value),cs[i]? =some v->us[i]? =some u->VRel P ω w Im θ v u
theorem VRel.mono{P:Program}{w w':World}{Im Im':Nat->Prop}(hI:∀ b,Im b->Im' b/\w'.heap[b]? =w.heap[b]?):
  ∀ {ω:Nat->Value} {θ:Th} {v:SV} {u:Value},VRel P ω w Im θ v u->∀ {θ':Th},(∀ x p,θ x=some p->θ' x=some p)->VRel P ω w' Im' θ' v u:=by
 have hcell:∀ b o,Im b->w'.cell? ⟨b,o,none⟩=w.cell? ⟨b,o,none⟩:=by
  intro b o hb
  simp only[World.cell?,(hI b hb).2]
 have hn:∀ x p,eG x=some p->eG x=some p:=fun _ _ h=>h
 intro ω θ v u h
 induction h with
 | junk=>intro θ' _;exact .junk
 | opq=>intro θ' _;exact .opq
 | pnn _ ih=>intro θ' hθ;exact .pnn (ih hθ)
 | emp=>intro θ' _;exact .emp
 | qs h1 h2 h3=>intro θ' hθ;exact .qs (hθ _ _ h1) h2 h3
 | qsnil h=>intro θ' _;exact .qsnil h
 | qp h=>intro θ' hθ;exact .qp (hθ _ _ h)
 | bool=>intro θ' _;exact .bool
 | int=>intro θ' _;exact .int
 | str h=>intro θ' _;exact .str h
 | ptr h=>intro θ' hθ;exact .ptr (hθ _ _ h)
 | nilp=>intro θ' _;exact .nilp
 | pel h1 h2 h3 ih=>
  intro θ' hθ
  exact .pel (ih hn) (hI _ h2).1 (fun d c hd=>by rw[hcell _ _ h2];exact h3 d c hd)
 | sl h1 h2 h3=>intro θ' hθ;exact .sl (hθ _ _ h1) h2 h3
 | slnil=>intro θ' _;exact .slnil
 | nils=>intro θ' _;exact .nils
 | psl us h1 h0 h2 h3 h4 ih=>
  intro θ' hθ
  refine .psl us h1 h0 h2 (fun i v hv=>ih i v hv hn) (fun hne=> ?_)
  obtain⟨a,off,hp,ha,hc⟩:=h4 hne
  exact⟨a,off,hp,(hI _ ha).1,fun i hi=>⟨(hc i hi).1,fun d c hd=>by rw[hcell _ _ ha];exact(hc i hi).2 d c hd⟩⟩
 | mp h=>intro θ' hθ;exact .mp (hθ _ _ h)
 | nilm=>intro θ' _;exact .nilm
 | yl h=>intro θ' hθ;exact .yl (hθ _ _ h)
 | fn h1 h2 _ _ ih1 ih2=>intro θ' hθ;exact .fn h1 h2 (fun i v u a b=>ih1 i v u a b hθ) (fun i v u a b=>ih2 i v u a b hθ)
 | nilf=>intro θ' _;exact .nilf
 | iface _ ih=>intro θ' hθ;exact .iface (ih hθ)
 | nili=>intro θ' _;exact .nili
 | agg h1 _ ih=>intro θ' hθ;exact .agg h1 (fun i v u a b=>ih i v u a b hθ)
 | tup h1 _ ih=>intro θ' hθ;exact .tup h1 (fun i v u a b=>ih i v u a b hθ)
theorem VRel'.mono{P:Program}{w w':World}{Im Im':Nat->Prop}{ω:Nat->Value}{θ:Th}{v:SV}{u:Value}(h:VRel' P w Im ω θ v u)(hI:∀ b,Im b->Im' b/\w'.heap[b]? =w.heap[b]?){θ':Th}(hθ:∀ x p,θ x=some p->θ' x=some p):VRel' P w' Im' ω θ' v u:=VRel.mono hI h hθ
theorem ec:∀ {vs:List SV},ce vs=true->∀ {i:Nat} {v:SV},vs[i]? =some v->eK v=true
 | [],_,i,v,h=>by simp at h
 | w :: vs,hn,i,v,h=>by
  simp only[ce,bA]at hn
  cases i with
  | zero=>simp at h;subst h;exact hn.1
  | succ i=>exact ec hn.2 (by simpa using h)
theorem VRel.om{P:Program}{ω ω':Nat->Value}{w:World}{Im:Nat->Prop}{θ:Th}{v:SV}{u:Value}(h:VRel P ω w Im θ v u)(hn:eK v=true):VRel P ω' w Im θ v u:=by
 induction h with
 | junk=>exact .junk
 | opq=>simp[eK]at hn
 | pnn h _=>exact .pnn (by cases h with | psl us h1 h0 h2 h3 h4=>exact .psl us h1 h0 h2 h3 h4)
 | emp=>exact .emp
 | qs h1 h2 h3=>exact .qs h1 h2 h3
 | qsnil h=>exact .qsnil h
 | qp h=>exact .qp h
 | bool=>exact .bool
 | int=>exact .int
 | str h=>exact .str h
 | ptr h=>exact .ptr h
 | nilp=>exact .nilp
 | pel h1 h2 h3 _=>exact .pel h1 h2 h3
 | sl h1 h2 h3=>exact .sl h1 h2 h3
 | slnil=>exact .slnil
 | nils=>exact .nils
 | psl us h1 h0 h2 h3 h4 _=>exact .psl us h1 h0 h2 h3 h4
 | mp h=>exact .mp h
 | nilm=>exact .nilm
 | yl h=>exact .yl h
 | fn h1 h2 _ _ ih1 ih2=>
  simp only[eK,bA]at hn
  exact .fn h1 h2 (fun i v u a b=>ih1 i v u a b (ec hn.1 a)) (fun i v u a b=>ih2 i v u a b (ec hn.2 a))
 | nilf=>exact .nilf
 | iface _ ih=>exact .iface (ih (by simpa [eK]using hn))
 | nili=>exact .nili
 | agg h1 _ ih=>exact .agg h1 (fun i v u a b=>ih i v u a b (ec (by simpa [eK]using hn) a))
 | tup h1 _ ih=>exact .tup h1 (fun i v u a b=>ih i v u a b (ec (by simpa [eK]using hn) a))
def Bq(n:Nat)(fr:Nat × Nat):Prop:=∀ i,i < n->¬ (fr.1<=i/\i < fr.2)
def It:Ex->Option Code
 | .normal=>none
 | .exit id=>some (.exit id)
 | .ret=>some .ret
def tW:LS->LoopState->Option Code->Prop
 | .ready,st,pe=>st= .ready/\pe=none
 | .busy,st,pe=>st= .busy/\pe=none
 | .done e,st,pe=>st= .done/\pe=It e/\pe≠none
def bN(kd:IntKind)(kvs:List (Int × Bool)):List SV:=kvs.map fun p=>.int kd p.1
def cA(kvs:List (Int × Bool)):List SV:=kvs.map fun p=>.bool p.2
def CRel(P:Program)(ω:Nat->Value)(w:World)(Im:Nat->Prop)(θ:Th)(x:Nat):Chunk->Prop
 | .cells T vs=>∃ (b:Nat) (cs:Array Value) (fr:Nat × Nat),θ x=some (b,vs.length)/\w.heap[b]? =some (.cells cs T fr)/\Bq cs.size fr/\
   LRel P ω w Im θ vs cs.toList
 | .seq e es=>(es=[]/\θ x=none)\/∃ (b N:Nat) (cs:Array Value) (T:TypeId) (fr:Nat × Nat) (us:Nat->Value),θ x=some (b,N)/\w.heap[b]? =some (.cells cs T fr)/\Bq cs.size fr/\
   (cs.size=N/\T=e)/\es.length * P.cellsOf e<=N/\(∀ v ∈ es,expand P e v=v)/\(∀ (i:Nat) (v:SV),es[i]? =some v->VRel P om0 w Im eG v (us i)/\(us i).cells.size=P.cellsOf e/\
    ∀ (d:Nat) (c:Value),(us i).cells[d]? =some c->cs[i * P.cellsOf e+d]? =some c)
 | .loopr st vs ps asg bdy=>∃ (b N:Nat) (lp:Loop),θ x=some (b,N)/\w.heap[b]? =some (.loop lp)/\lp.params=ps/\lp.assign=asg/\lp.body=bdy/\tW st lp.state lp.pending/\LRel P ω w Im θ vs lp.tmps.toList
 | .mpc ks vs=>∃ (b N:Nat) (es:Array MapEntry) (clock:Nat),θ x=some (b,N)/\w.heap[b]? =some (.map es clock)/\LRel P ω w Im θ ks (es.toList.map (·.key))/\LRel P ω w Im θ vs (es.toList.map (·.val))/\∀ e ∈ es.toList,e.born < clock
 | .mpb kd kvs=>∃ (b N:Nat) (es:Array MapEntry) (clock:Nat),θ x=some (b,N)/\w.heap[b]? =some (.map es clock)/\LRel P ω w Im θ (bN kd kvs) (es.toList.map (·.key))/\LRel P ω w Im θ (cA kvs) (es.toList.map (·.val))/\∀ e ∈ es.toList,e.born < clock
abbrev HpF:=Nat->Option Chunk
structure HRel (P:Program) (ω:Nat->Value) (w:World) (Im:Nat->Prop) (θ:Th) (h:HpF):Prop where
 at_:∀ x c,h x=some c->CRel P ω w Im θ x c
 inj:∀ x y c c' b N N',h x=some c->h y=some c'->θ x=some (b,N)->θ y=some (b,N')->x=y
 own:∀ x c b N,h x=some c->θ x=some (b,N)->¬ Im b/\b < w.heap.size
 im:∀ b,Im b->b < w.heap.size
def ad:List (Nat × Option Chunk)->HpF->HpF
 | [],h=>h
 | (x,c) :: l,h=>ad l (fun y=>if y=x then c else h y)
structure Ext (new:Nat->Prop) (h:HpF) (w:World) (Im:Nat->Prop) (θ:Th) (h':HpF) (w':World) (Im':Nat->Prop) (θ':Th):Prop where
 thOld:∀ x,¬ new x->θ' x=θ x
 thUp:∀ x p,θ x=some p->θ' x=some p
 imUp:∀ b,Im b->Im' b
 size:w.heap.size<=w'.heap.size
 keep:∀ b,b < w.heap.size->(∀ x c N,h x=some c->θ x≠some (b,N))->w'.heap[b]? =w.heap[b]?
 imNew:∀ b,Im' b->Im b\/(∃ x c N,h x=some c/\θ x=some (b,N))\/w.heap.size<=b
 ownNew:∀ x c b N,h' x=some c->θ' x=some (b,N)->(∃ y c' N',h y=some c'/\θ y=some (b,N'))\/w.heap.size<=b
 os:w'.os=w.os
 output:w'.output=w.output
 tape:w'.tape=w.tape
theorem Ext.refl(new:Nat->Prop){h:HpF}{w:World}{Im:Nat->Prop}{θ:Th}:Ext new h w Im θ h w Im θ where
 thOld _ _:=rfl
 thUp _ _ h:=h
 imUp _ h:=h
 size:=Nat.le_refl _
 keep _ _ _:=rfl
 imNew _ h:=.inl h
 ownNew x c _ N h1 h2:=.inl ⟨x,c,N,h1,h2⟩
 os:=rfl
 output:=rfl
 tape:=rfl
theorem Ext.mono{new new':Nat->Prop}{h h':HpF}{w w':World}{Im Im':Nat->Prop}{θ θ':Th}(e:Ext new h w Im θ h' w' Im' θ')(hn:∀ x,new x->new' x):
  Ext new' h w Im θ h' w' Im' θ':=
 {e with thOld:=fun x hx=>e.thOld x (fun hh=>hx (hn x hh))}
theorem Ext.trans{new:Nat->Prop}{h h' h'':HpF}{w w' w'':World}{Im Im' Im'':Nat->Prop}{θ θ' θ'':Th}
  (e:Ext new h w Im θ h' w' Im' θ') (f:Ext new h' w' Im' θ' h'' w'' Im'' θ''):Ext new h w Im θ h'' w'' Im'' θ'' where
 thOld x hx:=(f.thOld x hx).trans (e.thOld x hx)
 thUp x p hp:=f.thUp x p (e.thUp x p hp)
 imUp b hb:=f.imUp b (e.imUp b hb)
 size:=Nat.le_trans e.size f.size
 keep b hb hno:=by
  rw[f.keep b (Nat.lt_of_lt_of_le hb e.size),e.keep b hb hno]
  intro x c N hx hθ
  rcases e.ownNew x c b N hx hθ with ⟨y,c',N',hy,hy'⟩ | hge
  . exact hno y c' N' hy hy'
  . omega
 imNew b hb:=by
  rcases f.imNew b hb with h1 | ⟨x,c,N,hx,hθ⟩ | h1
  . exact e.imNew b h1
  . rcases e.ownNew x c b N hx hθ with h2 | h2
    . exact .inr (.inl h2)
    . exact .inr (.inr h2)
  . exact .inr (.inr (Nat.le_trans e.size h1))
 ownNew x c b N hx hθ:=by
  rcases f.ownNew x c b N hx hθ with ⟨y,c',N',hy,hy'⟩ | h1
  . exact e.ownNew y c' b N' hy hy'
  . exact .inr (Nat.le_trans e.size h1)
 os:=f.os.trans e.os
 output:=f.output.trans e.output
 tape:=f.tape.trans e.tape
theorem Ext.im_same{P:Program}{ω:Nat->Value}{new:Nat->Prop}{h h':HpF}{w w':World}{Im Im':Nat->Prop}{θ θ':Th}(e:Ext new h w Im θ h' w' Im' θ')
  (hr:HRel P ω w Im θ h):∀ b,Im b->Im' b/\w'.heap[b]? =w.heap[b]? :=fun b hb=>
 ⟨e.imUp b hb,e.keep b (hr.im b hb) (fun x c N hx hθ=>(hr.own x c b N hx hθ).1 hb)⟩
theorem Ext.val{P:Program}{ω:Nat->Value}{new:Nat->Prop}{h h':HpF}{w w':World}{Im Im':Nat->Prop}{θ θ':Th}(e:Ext new h w Im θ h' w' Im' θ')
  (hr:HRel P ω w Im θ h) {v:SV} {u:Value} (hv:VRel P ω w Im θ v u):VRel P ω w' Im' θ' v u:=
 hv.mono (e.im_same hr) e.thUp
def af(h:HpF):OpM->Option (SV × List (Nat × Option Chunk) × Nat × List Nat)
 | .done r ups nx=>some (r,ups,nx,[])
 | .get x f=>match h x with
  | some c=>match af h (f c)with
   | some (r,ups,nx,rs)=>some (r,ups,nx,x :: rs)
   | none=>none
  | none=>none
 | .ite b t e=>if b then af h t else af h e
 | .fail=>none
end Go.Am
namespace Go.Am
variable {P:Program} {ω:Nat->Value}
def FR(ρ:Option Nat):Fence:={Fence.wide with round:=ρ}
theorem CZ(ρ:Option Nat):(FR ρ).depth=none:=rfl
theorem hX(ρ:Option Nat)(f:FuncId):(FR ρ).fn f:=trivial
theorem pR{ρ:Option Nat}{n:Nat}{f:FuncId}{args:Array Value}{w:World}{R:Ending->World->Prop}(h:Calls P f args w R):CallsIn (FR ρ) n P f args w R:=
 (callsIn_wide (n:=n)).2 h
theorem eS(ρ:Option Nat){n:Nat}:(FR ρ).depth.isSome=true->1<=n:=fun h=>by simp[CZ]at h
theorem vm{ρ:Option Nat}{ev:Operand->Value}{o:Oper}{w w':World}{v:Value}(h:(execOp ev o).run P w= .ok (.value v) w'):(o.semAt ρ ev).run P w= .ok (.value v) w':=by
 by_cases hd:∃ c,o.op= .defer c
 . obtain⟨c,hc⟩:=hd
   obtain⟨dst,op,type,pos,after,guard⟩:=o
   simp only at hc
   subst hc
   simp only[execOp,Sem.run_bind]at h
   cases hr:(resolve ev c type).run P w <;> simp[hr,Result.andThen]at h
 . rw[Oper.semAt_eq ρ ev o (fun c hc=>hd ⟨c,hc⟩)];exact h
theorem xk{ρ:Option Nat}{ev:Operand->Value}{o:Oper}{w w':World}(h:(execOp ev o).run P w= .ok .skip w'):(o.semAt ρ ev).run P w= .ok .skip w':=by
 by_cases hd:∃ c,o.op= .defer c
 . obtain⟨c,hc⟩:=hd
   obtain⟨dst,op,type,pos,after,guard⟩:=o
   simp only at hc
   subst hc
   simp only[execOp,Sem.run_bind]at h
   cases hr:(resolve ev c type).run P w <;> simp[hr,Result.andThen]at h
 . rw[Oper.semAt_eq ρ ev o (fun c hc=>hd ⟨c,hc⟩)];exact h
def ta(P:Program)(ω:Nat->Value)(o:Oper)(a:Act)(w:World)(Im:Nat->Prop)(θ:Th)(h:HpF)(r:SV)(ups:List (Nat × Option Chunk))(nx nx':Nat):Prop:=
 ∀ (ρ:Option Nat) (K:Act->World->Prop) (Q:Exit->Act->World->Prop),
  (∀ v w' Im' θ',Ext (fun x=>nx<=x/\x < nx') h w Im θ (ad ups h) w' Im' θ'->VRel P ω w' Im' θ' r v->HRel P ω w' Im' θ' (ad ups h)->K (a.put o.dst v) w')->o.wpIn (FR ρ) 0 P a w K Q
theorem cN{o:Oper}{a:Act}{w w':World}{Im Im':Nat->Prop}{θ θ':Th}{h:HpF}{r:SV}{ups:List (Nat × Option Chunk)}{nx nx':Nat}{v:Value}
  (hrun:(execOp a.eval o).run P w= .ok (.value v) w') (he:Ext (fun x=>nx<=x/\x < nx') h w Im θ (ad ups h) w' Im' θ')
  (hv:VRel P ω w' Im' θ' r v) (hr:HRel P ω w' Im' θ' (ad ups h)):ta P ω o a w Im θ h r ups nx nx':=by
 intro ρ K Q hK
 refine⟨fun f _=>hX ρ f,?_⟩
 rw[show(FR ρ).round=ρ from rfl,vm hrun]
 exact hK v w' Im' θ' he hv hr
theorem aw{o:Oper}{a:Act}{w:World}{Im:Nat->Prop}{θ:Th}{h:HpF}{r:SV}{nx:Nat}{v:Value}
  (hr:HRel P ω w Im θ h) (hrun:(execOp a.eval o).run P w= .ok (.value v) w) (hv:VRel P ω w Im θ r v):ta P ω o a w Im θ h r [] nx nx:=
 cN hrun (Ext.refl _) hv hr
theorem j5{o:Oper}{a:Act}{w w':World}{Im Im':Nat->Prop}{θ θ':Th}{h:HpF}{ups:List (Nat × Option Chunk)}{nx nx':Nat}
  (hrun:(execOp a.eval o).run P w= .ok .skip w') (he:Ext (fun x=>nx<=x/\x < nx') h w Im θ (ad ups h) w' Im' θ')
  (hr:HRel P ω w' Im' θ' (ad ups h)):ta P ω o a w Im θ h .junk ups nx nx':=by
 intro ρ K Q hK
 refine⟨fun f _=>hX ρ f,?_⟩
 rw[show(FR ρ).round=ρ from rfl,xk hrun]
 exact hK undef w' Im' θ' he .junk hr
/- Single cells. -/
theorem gz{w:World}{Im:Nat->Prop}{θ:Th}{v:SV}{u:Value}(hv:VRel P ω w Im θ v u)(h:AZ v=true):u.oneCell'=true:=by
 cases hv <;> first | rfl | simp[AZ]at h
theorem LRel.one{w:World}{Im:Nat->Prop}{θ:Th}{cs:List SV}{us:List Value}(hl:LRel P ω w Im θ cs us)(h:iD cs=true):∀ u ∈ us,u.oneCell'=true:=by
 obtain⟨hlen,hat⟩:=hl
 induction cs generalizing us with
 | nil=>cases us with
  | nil=>simp
  | cons=>simp at hlen
 | cons c cs ih=>cases us with
  | nil=>simp at hlen
  | cons u us=>
   simp only[iD,bA]at h
   intro x hx
   rcases List.mem_cons.1 hx with rfl | hx
   . exact gz (hat 0 c _ rfl rfl) h.1
   . exact ih h.2 (by simpa using hlen) (fun i v u hv hu=>hat (i+1) v u (by simpa using hv) (by simpa using hu)) x hx
theorem rV{u:Value}(h:u.oneCell'=true):u.cells= #[u]:=by
 cases u <;> first | rfl | simp[Value.oneCell']at h
theorem vn{v:SV}{cs:List SV}(h:bP v=some cs):iD cs=true:=by
 cases v <;> simp[bP]at h <;> try (subst h;rfl)
 rename_i l
 cases hh:iD l <;> simp[hh]at h
 subst h;exact hh
theorem bW{w:World}{Im:Nat->Prop}{θ:Th}{v:SV}{u:Value}{cs:List SV}(hv:VRel P ω w Im θ v u)(h:bP v=some cs):LRel P ω w Im θ cs u.cells.toList:=by
 cases hv with
 | junk=>simp[bP]at h
 | opq=>simp[bP]at h
 | tup=>simp[bP]at h
 | agg h1 h2=>
  rename_i l us
  have:cs=l:=by
   simp only[bP]at h
   cases hh:iD l <;> simp[hh]at h
   exact h.symm
  subst this
  exact⟨by simpa [Value.cells]using h1,fun i v u hv hu=>h2 i v u hv (by simpa [Value.cells]using hu)⟩
 | _=>
  simp only[bP,sJ]at h
  subst h
  refine⟨by simp[Value.cells],fun i v u hv hu=> ?_⟩
  cases i with
  | zero=>
   simp[Value.cells]at hv hu
   subst hv;subst hu
   constructor <;> assumption
  | succ i=>simp at hv
theorem LRel.mono{w w':World}{Im Im':Nat->Prop}{θ θ':Th}{cs:List SV}{us:List Value}(hl:LRel P ω w Im θ cs us)(hI:∀ b,Im b->Im' b/\w'.heap[b]? =w.heap[b]?)
  (hθ:∀ x p,θ x=some p->θ' x=some p):LRel P ω w' Im' θ' cs us:=
 ⟨hl.len,fun i v u hv hu=>(hl.at_ i v u hv hu).mono hI hθ⟩
theorem CRel.mono{w w':World}{Im Im':Nat->Prop}{θ θ':Th}{x:Nat}{c:Chunk}(hc:CRel P ω w Im θ x c)(hI:∀ b,Im b->Im' b/\w'.heap[b]? =w.heap[b]?)
  (hθ:∀ x p,θ x=some p->θ' x=some p) (hx:θ' x=θ x) (hb:∀ b N,θ x=some (b,N)->w'.heap[b]? =w.heap[b]?):CRel P ω w' Im' θ' x c:=by
 cases c with
 | cells T vs=>
  obtain⟨b,cs,fr,h1,h2,h3,h4⟩:=hc
  exact⟨b,cs,fr,by rw[hx];exact h1,by rw[hb b _ h1];exact h2,h3,h4.mono hI hθ⟩
 | seq e es=>
  rcases hc with ⟨h1,h2⟩ | ⟨b,N,cs,T,fr,us,h1,h2,h3,h4,h5,h6,h7⟩
  . exact .inl ⟨h1,by rw[hx];exact h2⟩
  . refine .inr ⟨b,N,cs,T,fr,us,by rw[hx];exact h1,by rw[hb b _ h1];exact h2,h3,h4,h5,h6,fun i v hv=> ?_⟩
    exact⟨(h7 i v hv).1.mono hI (fun _ _ h=>h),(h7 i v hv).2⟩
 | loopr st vs ps asg bdy=>
  obtain⟨b,N,lp,h1,h2,h3,h4,h5,h6,h7⟩:=hc
  exact⟨b,N,lp,by rw[hx];exact h1,by rw[hb b _ h1];exact h2,h3,h4,h5,h6,h7.mono hI hθ⟩
 | mpc ks vs=>
  obtain⟨b,N,es,cl,h1,h2,h3,h4,h5⟩:=hc
  exact⟨b,N,es,cl,by rw[hx];exact h1,by rw[hb b _ h1];exact h2,h3.mono hI hθ,h4.mono hI hθ,h5⟩
 | mpb kd kvs=>
  obtain⟨b,N,es,cl,h1,h2,h3,h4,h5⟩:=hc
  exact⟨b,N,es,cl,by rw[hx];exact h1,by rw[hb b _ h1];exact h2,h3.mono hI hθ,h4.mono hI hθ,h5⟩
theorem dl(w:World)(o:Obj)(b:Nat)(h:b < w.heap.size):(w.alloc o).heap[b]? =w.heap[b]? :=by
 show(w.heap.push o)[b]? =_
 rw[Array.getElem?_push,if_neg (Nat.ne_of_lt h)]
theorem ef(w:World)(o:Obj):(w.alloc o).heap[w.heap.size]? =some o:=by
 show(w.heap.push o)[w.heap.size]? =_
 rw[Array.getElem?_push,if_pos rfl]
/- A new row of cells. -/
theorem lV      {w:World}{Im:Nat->Prop}{θ:Th}{h:HpF}(hr:HRel P ω w Im θ h){nx:Nat}(hθ:θ nx=none){vs:List SV}{us:List Value}{T:TypeId}(hl:LRel P ω w Im θ vs us):
  ∃ θ',Ext (fun x=>nx<=x/\x < nx+1) h w Im θ (ad [(nx,some (.cells T vs))] h) (w.alloc (.cells us.toArray T)) Im θ'/\
   HRel P ω (w.alloc (.cells us.toArray T)) Im θ' (ad [(nx,some (.cells T vs))] h)/\θ' nx=some (w.heap.size,vs.length):=by
 let θ':Th:=fun x=>if x=nx then some (w.heap.size,vs.length)else θ x
 have hup:∀ x p,θ x=some p->θ' x=some p:=by
  intro x p hp
  by_cases hx:x=nx
  . subst hx;rw[hθ]at hp;cases hp
  . simp[θ',hx,hp]
 have hold:∀ b,b < w.heap.size->(w.alloc (.cells us.toArray T)).heap[b]? =w.heap[b]? :=fun b hb=>dl w _ b hb
 have hI:∀ b,Im b->Im b/\(w.alloc (.cells us.toArray T)).heap[b]? =w.heap[b]? :=fun b hb=>⟨hb,hold b (hr.im b hb)⟩
 refine⟨θ',?_,?_,by simp[θ']⟩
 . refine⟨?_,hup,fun _ h=>h,by simp,fun b hb _=>hold b hb,fun b hb=>.inl hb,?_,rfl,rfl,rfl⟩
   . intro x hx
     have:x≠nx:=by intro e;subst e;exact hx ⟨Nat.le_refl _,Nat.lt_succ_self _⟩
     simp[θ',this]
   . intro x c b N hx hb
     by_cases hxn:x=nx
     . subst hxn
       simp[θ']at hb
       exact .inr (by omega)
     . simp[θ',hxn]at hb
       simp[ad,hxn]at hx
       exact .inl ⟨x,c,N,hx,hb⟩
 . refine⟨?_,?_,?_,fun b hb=>by have:=hr.im b hb;simp;omega⟩
   . intro x c hx
     by_cases hxn:x=nx
     . subst hxn
       simp[ad]at hx
       subst hx
       refine⟨w.heap.size,us.toArray,(0,0),by simp[θ'],ef w _,fun i _ hh=>by omega,?_⟩
       exact hl.mono hI hup
     . simp[ad,hxn]at hx
       exact(hr.at_ x c hx).mono hI hup (by simp[θ',hxn]) (fun b N hb=>hold b (hr.own x c b N hx hb).2)
   . intro x y c c' b N N' hx hy hb hb'
     by_cases hxn:x=nx
     . by_cases hyn:y=nx
       . rw[hxn,hyn]
       . simp[ad,hyn]at hy
         simp[θ',hyn]at hb'
         simp[θ',hxn]at hb
         have:=(hr.own y c' b N' hy hb').2
         omega
     . by_cases hyn:y=nx
       . simp[ad,hxn]at hx
         simp[θ',hxn]at hb
         simp[θ',hyn]at hb'
         have:=(hr.own x c b N hx hb).2
         omega
       . simp[ad,hxn]at hx
         simp[ad,hyn]at hy
         simp[θ',hxn]at hb
         simp[θ',hyn]at hb'
         exact hr.inj x y c c' b N N' hx hy hb hb'
   . intro x c b N hx hb
     by_cases hxn:x=nx
     . simp[θ',hxn]at hb
       refine⟨fun hi=> ?_,by simp;omega⟩
       have:=hr.im b hi
       omega
     . simp[ad,hxn]at hx
       simp[θ',hxn]at hb
       have:=hr.own x c b N hx hb
       exact⟨this.1,by simp;omega⟩
/- A row that is written. -/
theorem C0      {w:World}{Im:Nat->Prop}{θ:Th}{h:HpF}(hr:HRel P ω w Im θ h){nx x:Nat}{T:TypeId}{vs vs':List SV}{us':List Value}(hx:h x=some (.cells T vs))
  {b:Nat} {cs:Array Value} {fr:Nat × Nat} (hθ:θ x=some (b,vs.length)) (hb:w.heap[b]? =some (.cells cs T fr)) (hf:Bq cs.size fr) (hcs:cs.size=vs.length)
  (hlen:vs'.length=vs.length) (hl:LRel P ω w Im θ vs' us'):
  Ext (fun x=>nx<=x/\x < nx) h w Im θ (ad [(x,some (.cells T vs'))] h) (w.setRow b us'.toArray) Im θ/\
   HRel P ω (w.setRow b us'.toArray) Im θ (ad [(x,some (.cells T vs'))] h):=by
 have hown:=hr.own x _ b _ hx hθ
 have hI:∀ d,Im d->Im d/\(w.setRow b us'.toArray).heap[d]? =w.heap[d]? :=fun d hd=>⟨hd,Go.setRow_other w b d _ (fun e=>hown.1 (e ▸ hd))⟩
 have hnew:(w.setRow b us'.toArray).heap[b]? =some (.cells us'.toArray T fr):=setRow_heap w b cs _ T fr hb
 refine⟨⟨fun _ _=>rfl,fun _ _ h=>h,fun _ h=>h,by simp[World.setRow],?_,fun d hd=>.inl hd,?_,rfl,rfl,rfl⟩,?_,?_,?_,fun d hd=>by simpa [World.setRow]using hr.im d hd⟩
 . intro d hd hno
   exact Go.setRow_other w b d _ (fun e=>hno x _ _ hx (e ▸ hθ))
 . intro y c d N hy hd
   by_cases hyx:y=x
   . subst hyx;exact .inl ⟨y,_,N,hx,hd⟩
   . simp[ad,hyx]at hy;exact .inl ⟨y,c,N,hy,hd⟩
 . intro y c hy
   by_cases hyx:y=x
   . subst hyx
     simp[ad]at hy
     subst hy
     refine⟨b,us'.toArray,fr,by rw[hlen];exact hθ,hnew,?_,hl.mono hI (fun _ _ h=>h)⟩
     have:us'.toArray.size=cs.size:=by simp[<- hl.len,hlen,hcs]
     rw[this];exact hf
   . simp[ad,hyx]at hy
     refine(hr.at_ y c hy).mono hI (fun _ _ h=>h) rfl (fun d N hd=>Go.setRow_other w b d _ (fun e=> ?_))
     subst e
     exact hyx (hr.inj y x c _ d N _ hy hx hd hθ)
 . intro y z c c' d N N' hy hz hd hd'
   have hy':∃ c,h y=some c:=by
    by_cases hyx:y=x
    . exact⟨_,hyx ▸ hx⟩
    . simp[ad,hyx]at hy;exact⟨_,hy⟩
   have hz':∃ c,h z=some c:=by
    by_cases hzx:z=x
    . exact⟨_,hzx ▸ hx⟩
    . simp[ad,hzx]at hz;exact⟨_,hz⟩
   obtain⟨c1,h1⟩:=hy'
   obtain⟨c2,h2⟩:=hz'
   exact hr.inj y z c1 c2 d N N' h1 h2 hd hd'
 . intro y c d N hy hd
   have hy':∃ c,h y=some c:=by
    by_cases hyx:y=x
    . exact⟨_,hyx ▸ hx⟩
    . simp[ad,hyx]at hy;exact⟨_,hy⟩
   obtain⟨c1,h1⟩:=hy'
   have:=hr.own y c1 d N h1 hd
   exact⟨this.1,by simpa [World.setRow]using this.2⟩
/- Constants. -/
theorem iv(w:World)(Im:Nat->Prop)(θ:Th)(v:Value):VRel P ω w Im θ (jE v) v:=by
 unfold jE
 split <;> first
  | exact .bool
  | exact .int
  | exact .str rfl
  | exact .nilp
  | exact .nils
  | exact .nilm
  | exact .nilf
  | exact .nili
  | exact .junk
theorem db(w:World)(Im:Nat->Prop)(θ:Th)(v:Value):VRel P ω w Im θ (ofValue v) v:=by
 unfold ofValue
 split
 . refine .agg (by simp) (fun i v u hv hu=> ?_)
   simp only[List.getElem?_map,Option.map_eq_some_iff]at hv
   obtain⟨c,hc,rfl⟩:=hv
   rw[Array.getElem?_toList]at hc
   rw[hc]at hu
   cases hu
   exact iv w Im θ _
 . exact .iface (iv w Im θ _)
 . exact iv w Im θ _
/- Lists. -/
theorem dZ{α:Type}:∀ (l:List α) (o n:Nat) (r:List α),en l o n=some r->o+n<=l.length/\r=(l.drop o).take n
 | l,0,0,r,h=>by simp[en]at h;subst h;simp
 | [],o+1,n,r,h=>by simp[en]at h
 | [],0,n+1,r,h=>by simp[en]at h
 | x :: l,o+1,n,r,h=>by
  have h':en l o n=some r:=by simpa [en]using h
  have:=dZ l o n r h'
  exact⟨by simp;omega,by simpa using this.2⟩
 | x :: l,0,n+1,r,h=>by
  simp only[en]at h
  cases hr:en l 0 n with
  | none=>simp[hr]at h
  | some q=>
   have:=dZ l 0 n q hr
   simp[hr]at h
   subst h
   exact⟨by simp;omega,by simpa using this.2⟩
theorem dc{α:Type}:∀ (l:List α) (o:Nat) (vs r:List α),cS l o vs=some r->o+vs.length<=l.length/\r=l.take o++vs++l.drop (o+vs.length)
 | l,0,[],r,h=>by simp[cS]at h;subst h;simp
 | [],o+1,vs,r,h=>by simp[cS]at h
 | [],0,_ :: _,r,h=>by simp[cS]at h
 | x :: l,o+1,vs,r,h=>by
  simp only[cS]at h
  cases hr:cS l o vs with
  | none=>simp[hr]at h
  | some q=>
   have:=dc l o vs q hr
   simp[hr]at h
   subst h
   refine⟨by simp;omega,?_⟩
   rw[this.2]
   have:o+1+vs.length=(o+vs.length)+1:=by omega
   simp[this]
 | x :: l,0,v :: vs,r,h=>by
  simp only[cS]at h
  cases hr:cS l 0 vs with
  | none=>simp[hr]at h
  | some q=>
   have:=dc l 0 vs q hr
   simp[hr]at h
   subst h
   refine⟨by simp;omega,?_⟩
   rw[this.2]
   simp
theorem fi{α:Type}:∀ (l:List α) (n:Nat),mq l n=l[n]?
 | [],_=>by simp[mq]
 | _ :: _,0=>rfl
 | _ :: l,n+1=>by simpa [mq]using fi l n
theorem LRel.part{w:World}{Im:Nat->Prop}{θ:Th}{vs:List SV}{us:List Value}(hl:LRel P ω w Im θ vs us)(o n:Nat):LRel P ω w Im θ ((vs.drop o).take n) ((us.drop o).take n):=by
 refine⟨by simp[hl.len],fun i v u hv hu=> ?_⟩
 rw[List.getElem?_take]at hv hu
 split at hv
 . rename_i hi
   rw[if_pos hi]at hu
   rw[List.getElem?_drop]at hv hu
   exact hl.at_ _ _ _ hv hu
 . cases hv
theorem LRel.append{w:World}{Im:Nat->Prop}{θ:Th}{as bs:List SV}{us vs:List Value}(h1:LRel P ω w Im θ as us)(h2:LRel P ω w Im θ bs vs):LRel P ω w Im θ (as++bs) (us++vs):=by
 refine⟨by simp[h1.len,h2.len],fun i v u hv hu=> ?_⟩
 rw[List.getElem?_append]at hv hu
 split at hv
 . rename_i hi
   rw[if_pos (h1.len ▸ hi)]at hu
   exact h1.at_ _ _ _ hv hu
 . rename_i hi
   rw[if_neg (h1.len ▸ hi)]at hu
   rw[<- h1.len]at hu
   exact h2.at_ _ _ _ hv hu
theorem LRel.dropL{w:World}{Im:Nat->Prop}{θ:Th}{vs:List SV}{us:List Value}(hl:LRel P ω w Im θ vs us)(o:Nat):LRel P ω w Im θ (vs.drop o) (us.drop o):=by
 refine⟨by simp[hl.len],fun i v u hv hu=> ?_⟩
 rw[List.getElem?_drop]at hv hu
 exact hl.at_ _ _ _ hv hu
theorem LRel.takeL{w:World}{Im:Nat->Prop}{θ:Th}{vs:List SV}{us:List Value}(hl:LRel P ω w Im θ vs us)(n:Nat):LRel P ω w Im θ (vs.take n) (us.take n):=by
 simpa using hl.part 0 n
/- Types. -/
theorem info_of_underlying{t:TypeId}{d:TypeDesc}(h:P.underlying t=some d):∃ i,P.info? t=some i:=by
 unfold Program.underlying at h
 split at h
 . exact⟨_,by assumption⟩
 . exact⟨_,by assumption⟩
 . cases h
theorem av{t:TypeId}{i:TypeInfo}(h:P.info? t=some i)(w:World):(sizeOf t).run P w= .ok (P.cellsOf t) w:=run_sizeOf w h
theorem dM{t:TypeId}(h:P.cellsOf t≠0):∃ i,P.info? t=some i:=by
 unfold Program.cellsOf at h
 cases hi:P.info? t with
 | some i=>exact⟨i,rfl⟩
 | none=>simp[hi]at h
theorem eg{t:TypeId}{d:TypeDesc}(h:P.underlying t=some d)(w:World):(isAgg t).run P w= .ok (aq P t) w:=by
 unfold isAgg aq
 simp only[Sem.run_bind,run_underlying h,Result.andThen_ok,h]
 cases d <;> rfl
theorem lW          {w:World}{Im:Nat->Prop}{θ:Th}{vs:List SV}{us:Array Value}{t:TypeId}{off:Nat}{v:SV}(hl:LRel P ω w Im θ vs us.toList)(h:dR    P t vs off=some v):
  ∃ u,(part t us off).run P w= .ok u w/\VRel P ω w Im θ v u:=by
 unfold dR at h
 cases hu:P.underlying t with
 | none=>simp[hu]at h
 | some d=>
  obtain⟨i,hi⟩:=info_of_underlying hu
  by_cases hd:aq P t=true
  . have h':∃ cs,en    vs off (P.cellsOf t)=some cs/\v= .agg cs:=by
      simp only[hu]at h
      simp only[aq,hu]at hd
      cases d <;> simp at hd <;> (simp only at h;cases ht:en vs off (P.cellsOf t) <;> simp[ht]at h;exact⟨_,rfl,h.symm⟩)
    obtain⟨cs,hcs,rfl⟩:=h'
    obtain⟨hlen,rfl⟩:=dZ _ _ _ _ hcs
    refine⟨.agg (us.extract off (off+P.cellsOf t)),?_,?_⟩
    . unfold part
      simp[eg hu,hd,av hi]
    . have:=hl.part off (P.cellsOf t)
      refine .agg ?_ (fun i v u hv hu=> ?_)
      . rw[this.len];simp[Array.size_extract,List.length_take,List.length_drop];omega
      . refine this.at_ i v u hv ?_
        rw[<- hu]
        simp only[List.getElem?_take,List.getElem?_drop,Array.getElem?_extract,Array.getElem?_toList]
        by_cases hi:i < P.cellsOf t
        . have:i < min (off+P.cellsOf t) us.size - off:=by
            have:=hl.len;simp at this;omega
          simp[hi,this]
        . have:¬ i < min (off+P.cellsOf t) us.size - off:=by omega
          simp[hi,this]
  . have hf:aq P t=false:=by simpa using hd
    have h':vs[off]? =some v:=by
     rw[<- fi]
     simp only[hu]at h
     simp only[aq,hu]at hf
     cases d <;> simp at hf <;> exact h
    have hlt:off < vs.length:=by
     rcases Nat.lt_or_ge off vs.length with h1 | h1
     . exact h1
     . simp[List.getElem?_eq_none h1]at h'
    have hlt':off < us.size:=by have:=hl.len;simp at this;omega
    refine⟨us[off],?_,hl.at_ off v _ h' (by simp[hlt'])⟩
    unfold part
    simp[eg hu,hf,hlt']
theorem bv(b o n:Nat):(⟨b,o,none⟩:Addr).add n=⟨b,o+n,none⟩:=by unfold Addr.add;split <;> simp_all
theorem iU             {w:World}{Im:Nat->Prop}{θ:Th}{vs:List SV}{cs:Array Value}{t T:TypeId}{fr:Nat × Nat}{b off:Nat}{v:SV}(hb:w.heap[b]? =some (.cells cs T fr))(hl:LRel P ω w Im θ vs cs.toList)(h:dR    P t vs off=some v):
  ∃ u,(loadVar t ⟨b,off,none⟩).run P w= .ok u w/\VRel P ω w Im θ v u:=by
 unfold dR at h
 cases hu:P.underlying t with
 | none=>simp[hu]at h
 | some d=>
  obtain⟨i,hi⟩:=info_of_underlying hu
  by_cases hd:aq P t=true
  . have h':∃ cs,en    vs off (P.cellsOf t)=some cs/\v= .agg cs:=by
      simp only[hu]at h
      simp only[aq,hu]at hd
      cases d <;> simp at hd <;> (simp only at h;cases ht:en vs off (P.cellsOf t) <;> simp[ht]at h;exact⟨_,rfl,h.symm⟩)
    obtain⟨l,hcs,rfl⟩:=h'
    obtain⟨hlen,rfl⟩:=dZ _ _ _ _ hcs
    have hp:=hl.part off (P.cellsOf t)
    refine⟨.agg ((cs.toList.drop off).take (P.cellsOf t)).toArray,?_,?_⟩
    . have hload:=run_loadCells_list (P:=P) w ⟨b,off,none⟩ ((cs.toList.drop off).take (P.cellsOf t)) (fun j v hj=>by
        rw[List.getElem?_take]at hj
        split at hj
        . rw[List.getElem?_drop,Array.getElem?_toList]at hj
          rw[bv]
          simp only[World.cell?,hb]
          simpa using hj
        . cases hj)
      have hn:((cs.toList.drop off).take (P.cellsOf t)).length=P.cellsOf t:=by
       have:=hl.len;simp at this;simp;omega
      rw[hn]at hload
      unfold loadVar
      simp[eg hu,hd,av hi,hload]
    . exact .agg (by rw[hp.len];simp) (fun i v u hv hu=>hp.at_ i v u hv (by simpa using hu))
  . have hf:aq P t=false:=by simpa using hd
    have h':vs[off]? =some v:=by
     rw[<- fi]
     simp only[hu]at h
     simp only[aq,hu]at hf
     cases d <;> simp at hf <;> exact h
    have hlt:off < vs.length:=by
     rcases Nat.lt_or_ge off vs.length with h1 | h1
     . exact h1
     . simp[List.getElem?_eq_none h1]at h'
    have hlt':off < cs.size:=by have:=hl.len;simp at this;omega
    refine⟨cs[off],?_,hl.at_ off v _ h' (by simp[hlt'])⟩
    have hc:w.cell? ⟨b,off,none⟩=some cs[off]:=by simp[World.cell?,hb,hlt']
    unfold loadVar
    simp[eg hu,hf,hc]
theorem bB(P:Program)(g o:Nat)(t:TypeId)(fz:Nat × Nat):∀ (vs:List Value) (i:Nat) (cur:Array Value) (w:World),w.heap[g]? =some (.cells cur t fz)->Bq cur.size fz->o+i+vs.length<=cur.size->(∀ v ∈ vs,v.oneCell'=true)->
  (storeCells ⟨g,o,none⟩ vs i).run P w= .ok () (w.setRow g (cur.toList.take (o+i)++vs++cur.toList.drop (o+i+vs.length)).toArray)
 | [],i,cur,w,hg,_,_,_=>by
  simp only[storeCells,List.append_nil,List.length_nil,Nat.add_zero,List.take_append_drop,Array.toArray_toList]
  rw[setRow_self w g cur t fz hg]
  rfl
 | v :: rest,i,cur,w,hg,hfz,hl,h1=>by
  have hi:o+i < cur.size:=by simp at hl;omega
  have hcell:w.cell? ⟨g,o+i,none⟩=some cur[o+i]:=by simp[World.cell?,hg,hi]
  have hfro:w.frozen? ⟨g,o+i,none⟩=false:=by
   have:=hfz (o+i) hi
   obtain⟨lo,hi'⟩:=fz
   simp only[World.frozen?,hg,Bool.and_eq_false_iff,decide_eq_false_iff_not]
   simp only at this
   omega
  have hst:(store ((⟨g,o,none⟩:Addr).add i) v).run P w= .ok () (w.setRow g (cur.setIfInBounds (o+i) v)):=by
   rw[bv,run_store P w _ v _ (h1 v (by simp)),hcell]
   simp[hfro,setCell_eq_setRow w g (o+i) cur t fz v hg]
  have ih:=bB P g o t fz rest (i+1) (cur.setIfInBounds (o+i) v) (w.setRow g (cur.setIfInBounds (o+i) v)) (setRow_heap w g cur _ t _ hg) (by simpa using hfz) (by simp at hl ⊢;omega) (fun x hx=>h1 x (by simp[hx]))
  simp only[storeCells,Sem.run_bind,hst,Result.andThen_ok,ih,setRow_setRow]
  congr 3
  have e:=list_seg_step cur.toList (o+i) v rest (by simp at hl ⊢;omega)
  simpa [Array.toList_setIfInBounds,Nat.add_assoc]using e
end Go.Am
namespace Go.Am
variable {P:Program} {ω:Nat->Value}
theorem qZ{a b:SV}{as bs:List SV}{r:Bool}(h:aX (a :: as) (b :: bs)=some r):∃ x y,k6 a b=some x/\aX as bs=some y/\r=(x&&y):=by
 cases as with
 | nil=>
  cases bs with
  | nil=>exact⟨r,true,by simpa [aX]using h,rfl,by simp⟩
  | cons=>
   simp only[aX]at h
   cases h1:k6 a b <;> simp[h1]at h
 | cons a' as'=>
  simp only[aX]at h
  cases h1:k6 a b with
  | none=>simp[h1]at h
  | some x=>
   cases h2:aX (a' :: as') bs with
   | none=>simp[h1,h2]at h
   | some y=>exact⟨x,y,rfl,rfl,by simpa [h1,h2]using h.symm⟩
theorem ga:∀ (n:Nat) {as bs:List SV} {r:Bool},aX as bs=some r->∃ x y,aX (as.take n) (bs.take n)=some x/\aX (as.drop n) (bs.drop n)=some y/\r=(x&&y)
 | 0,as,bs,r,h=>⟨true,r,by simp[aX],by simpa using h,by simp⟩
 | n+1,[],[],r,h=>⟨true,true,by simp[aX],by simp[aX],by simpa [aX]using h.symm⟩
 | n+1,[],_ :: _,r,h=>by simp[aX]at h
 | n+1,_ :: as,[],r,h=>by cases as <;> simp[aX]at h
 | n+1,a :: as,b :: bs,r,h=>by
  obtain⟨x,y,h1,h2,rfl⟩:=qZ h
  obtain⟨x',y',h3,h4,rfl⟩:=ga n h2
  refine⟨x&&x',y',?_,by simpa using h4,by simp[Bool.and_assoc]⟩
  simp only[List.take_succ_cons]
  cases hta:as.take n with
  | nil=>
   cases htb:bs.take n with
   | nil=>
    rw[hta,htb]at h3
    simp[aX]at h3
    subst h3
    simpa [aX]using h1
   | cons=>rw[hta,htb]at h3;simp[aX]at h3
  | cons a' as'=>
   rw[hta]at h3
   simp only[aX]
   rw[h1,h3]
theorem dJ:∀ (l1 l2:List TypeId) (cs:List SV),aQ P (l1++l2) cs=true->aQ P l1 (cs.take l1.length)=true/\aQ P l2 (cs.drop l1.length)=true
 | [],l2,cs,h=>by simpa [aQ]using h
 | u :: l1,l2,[],h=>by simp[aQ]at h
 | u :: l1,l2,c :: cs,h=>by
  simp only[List.cons_append,aQ,bA]at h
  have:=dJ l1 l2 cs h.2
  simp[aQ,h.1,this]
theorem jd{α:Type}(n:Nat)(l:List α):(iB n l).length=n * l.length:=by
 induction n with
 | zero=>simp[iB]
 | succ n ih=>simp[iB,ih,Nat.succ_mul];omega
theorem io{rec:TypeId->Bool}{lv:TypeId->List TypeId}(hrec:∀ t,rec t=true->(lv t).length=P.cellsOf t):∀ (fs:List Field) (o n:Nat),fA P rec fs o n=true->o+(fs.flatMap fun f=>lv f.type).length=n
 | [],o,n,h=>by simpa [fA]using h
 | f :: fs,o,n,h=>by
  simp only[fA,bA]at h
  have:=io hrec fs _ n h.2
  have h2:=hrec f.type h.1.2
  simp only[List.flatMap_cons,lA0]
  omega
theorem eM        :∀ (d:Nat) (t:TypeId),bK      P d t=true->(aK     P d t).length=P.cellsOf t
 | 0,t,h=>by simp[bK]at h
 | d+1,t,h=>by
  unfold bK at h
  unfold aK
  cases hu:P.underlying t with
  | none=>simp[hu]at h
  | some k=>
   cases k <;> simp only[hu]at h <;> first
    | (simpa using(nE h).symm)
    | (cases h;done)
    | skip
   . rename_i n e
     simp only[bA]at h
     rw[jd,eM d e h.1]
     exact nE h.2
   . rename_i fs
     simp only[bA]at h
     have:=io (fun t ht=>eM d t ht) fs.toList 0 _ h.2
     simpa using this
theorem ly{k k':IntKind}(h:fV k k'=true):k=k':=by cases k <;> cases k' <;> first | rfl | simp[fV]at h
def sE(P:Program)(ω:Nat->Value)(w:World)(Im:Nat->Prop)(θ:Th)(t:TypeId)(as:List SV)(u:Value):Prop:=
 (aq P t=true/\∃ xs:Array Value,u= .agg xs/\LRel P ω w Im θ as xs.toList)\/(aq P t=false/\∃ a,as=[a]/\VRel P ω w Im θ a u)
theorem lz      {w:World}{Im:Nat->Prop}{θ:Th}{t:TypeId}{k:TypeDesc}(hu:P.underlying t=some k){as:List SV}{us:Array Value}(hl:LRel P ω w Im θ as us.toList){off:Nat}(hlen:off+P.cellsOf t<=as.length)
  (h1:aq P t=false->P.cellsOf t=1):
  ∃ u,(part t us off).run P w= .ok u w/\sE P ω w Im θ t ((as.drop off).take (P.cellsOf t)) u:=by
 obtain⟨i,hi⟩:=Go.info_of_underlying hu
 by_cases hd:aq P t=true
 . refine⟨.agg (us.extract off (off+P.cellsOf t)),?_,.inl ⟨hd,_,rfl,?_⟩⟩
   . unfold part
     simp[eg hu,hd,av hi]
   . have:=hl.part off (P.cellsOf t)
     have e:(us.extract off (off+P.cellsOf t)).toList=(us.toList.drop off).take (P.cellsOf t):=by
      rw[Array.toList_extract];simp[List.extract]
     rw[e];exact this
 . have hf:aq P t=false:=by simpa using hd
   have hc:=h1 hf
   have hlt0:off < as.length:=by omega
   have hlt:off < us.size:=by have:=hl.len;simp at this;omega
   refine⟨us[off],?_,.inr ⟨hf,as[off],?_,hl.at_ off _ _ (by simp[hlt0]) (by simp[hlt])⟩⟩
   . unfold part
     simp[eg hu,hf,hlt]
   . rw[hc,List.drop_eq_getElem_cons hlt0];rfl
theorem wO        {w:World}{Im:Nat->Prop}{θ:Th}{t:TypeId}{a b:SV}{u v:Value}{r:Bool}{D:Nat}(hf:cG       P t a=true)(hg:cG       P t b=true)(h:k6     a b=some r)(ha:VRel P ω w Im θ a u)(hb:VRel P ω w Im θ b v):
  (Op.equalIn (D+1) t u v).run P w= .ok r w:=by
 unfold k6 at h
 split at h
 . cases ha;cases hb
   simp only[sJ]at h;subst h
   unfold cG at hf
   cases hu:P.underlying t with
   | none=>simp[hu]at hf
   | some k=>cases k <;> simp[hu]at hf;exact run_equalIn_bool' w D t _ _ hu
 . cases ha;cases hb
   simp only[sJ]at h;subst h
   unfold cG at hf hg
   cases hu:P.underlying t with
   | none=>simp[hu]at hf
   | some k=>
    cases k <;> simp[hu]at hf hg
    have e1:=ly hf
    have e2:=ly hg
    subst e1;subst e2
    exact run_equalIn_int w D t _ _ _ _ hu
 . rename_i x y
   cases ha with
   | str h1=>cases hb with
    | str h2=>
     simp only[sJ]at h;subst h
     unfold cG at hf
     cases hu:P.underlying t with
     | none=>simp[hu]at hf
     | some k=>
      cases k <;> simp[hu]at hf
      rw[run_equalIn_string w D t _ _ hu]
      rw[ByteArray.toList_eq,ByteArray.toList_eq,h1,h2]
 . cases h
theorem gU{w:World}{Im:Nat->Prop}{θ:Th}{d D:Nat}{xs ys:Array Value}{as bs:List SV}(hA:LRel P ω w Im θ as xs.toList)(hB:LRel P ω w Im θ bs ys.toList)
  (ih:∀ t,bK P d t=true->∀ (as bs:List SV) (u v:Value) (r:Bool),aQ P (aK P d t) as=true->aQ P (aK P d t) bs=true->sE P ω w Im θ t as u->sE P ω w Im θ t bs v->aX as bs=some r->(Op.equalIn D t u v).run P w= .ok r w):
  ∀ (fs:List Field) (o n:Nat) (r:Bool),fA P (bK P d) fs o n=true->n<=as.length->n<=bs.length->
   aQ P (fs.flatMap fun f=>aK P d f.type) ((as.drop o).take (n - o))=true->aQ P (fs.flatMap fun f=>aK P d f.type) ((bs.drop o).take (n - o))=true->
   aX ((as.drop o).take (n - o)) ((bs.drop o).take (n - o))=some r->(Op.eqFields D xs ys fs).run P w= .ok r w
 | [],o,n,r,h,_,_,_,_,hr=>by
  have:o=n:=by simpa [fA]using h
  subst this
  simp[aX]at hr
  subst hr
  simp[Op.eqFields]
 | f :: fs,o,n,r,h,ha,hb,hfa,hfb,hr=>by
  have hh:=h
  simp only[fA,bA]at h
  obtain⟨⟨⟨h1,h2⟩,h3⟩,h4⟩:=h
  have ho:f.offset=o:=nE h2
  have hn:=io (fun t ht=>eM d t ht) fs _ _ h4
  have hll:=eM d f.type h3
  have hne:f.name≠ "_" :=by simpa using h1
  have hun:∃ k,P.underlying f.type=some k:=by
   cases d with
   | zero=>simp[bK]at h3
   | succ d=>
    unfold bK at h3
    cases hu:P.underlying f.type with
    | none=>simp[hu]at h3
    | some k=>exact⟨k,rfl⟩
  obtain⟨k,hk⟩:=hun
  have hone:aq P f.type=false->P.cellsOf f.type=1:=by
   intro hf
   cases d with
   | zero=>simp[bK]at h3
   | succ d=>
    unfold bK at h3
    unfold aq at hf
    rw[hk]at h3 hf
    cases k <;> simp at h3 hf <;> first | exact h3 | skip
  obtain⟨u,hu1,hu2⟩:=lz hk hA (off:=o) (by omega) hone
  obtain⟨v,hv1,hv2⟩:=lz hk hB (off:=o) (by omega) hone
  simp only[List.flatMap_cons]at hfa hfb
  have fa:=dJ _ _ _ hfa
  have fb:=dJ _ _ _ hfb
  rw[hll]at fa fb
  obtain⟨x,y,e1,e2,rfl⟩:=ga (P.cellsOf f.type) hr
  have hmin:min (P.cellsOf f.type) (n - o)=P.cellsOf f.type:=by omega
  rw[List.take_take,hmin]at fa fb e1
  rw[List.take_take,hmin]at e1
  have hsub:n - o - P.cellsOf f.type=n - (o+P.cellsOf f.type):=by omega
  rw[List.drop_take,List.drop_drop,hsub]at fa fb e2
  rw[List.drop_take,List.drop_drop,hsub]at e2
  have r1:=ih f.type h3 _ _ u v x fa.1 fb.1 hu2 hv2 e1
  have r2:=gU hA hB ih fs _ n y h4 ha hb fa.2 fb.2 e2
  simp only[Op.eqFields,hne,ne_eq,not_false_eq_true,if_true,Sem.run_bind,ho,hu1,hv1,r1,Result.andThen_ok]
  cases x
  . simp
  . simpa using r2
theorem iQ             {w:World}{Im:Nat->Prop}{θ:Th}{D:Nat}{e:TypeId}{k:TypeDesc}(hk:P.underlying e=some k)(hone:aq     P e=false->P.cellsOf e=1){lv:List TypeId}(hlv:lv.length=P.cellsOf e){xs ys:Array Value}{as bs:List SV}
  (hA:LRel P ω w Im θ as xs.toList) (hB:LRel P ω w Im θ bs ys.toList)
  (ih:∀ (as bs:List SV) (u v:Value) (r:Bool),aQ P lv as=true->aQ P lv bs=true->sE P ω w Im θ e as u->sE P ω w Im θ e bs v->aX as bs=some r->(Op.equalIn D e u v).run P w= .ok r w):
  ∀ (m i:Nat) (r:Bool),(i+m) * P.cellsOf e<=as.length->(i+m) * P.cellsOf e<=bs.length->
   aQ P (iB m lv) ((as.drop (i * P.cellsOf e)).take (m * P.cellsOf e))=true->aQ P (iB m lv) ((bs.drop (i * P.cellsOf e)).take (m * P.cellsOf e))=true->
   aX ((as.drop (i * P.cellsOf e)).take (m * P.cellsOf e)) ((bs.drop (i * P.cellsOf e)).take (m * P.cellsOf e))=some r->(Op.eqItems D e (P.cellsOf e) xs ys (List.range' i m)).run P w= .ok r w
 | 0,i,r,_,_,_,_,hr=>by
  simp[aX]at hr
  subst hr
  simp[Op.eqItems]
 | m+1,i,r,ha,hb,hfa,hfb,hr=>by
  have hmul:(i+(m+1)) * P.cellsOf e=i * P.cellsOf e+P.cellsOf e+m * P.cellsOf e:=by
   rw[Nat.add_mul,Nat.succ_mul];omega
  have hmul1:(m+1) * P.cellsOf e=P.cellsOf e+m * P.cellsOf e:=by rw[Nat.succ_mul];omega
  have hmul2:(i+1) * P.cellsOf e=i * P.cellsOf e+P.cellsOf e:=by rw[Nat.succ_mul]
  obtain⟨u,hu1,hu2⟩:=lz hk hA (off:=i * P.cellsOf e) (by omega) hone
  obtain⟨v,hv1,hv2⟩:=lz hk hB (off:=i * P.cellsOf e) (by omega) hone
  simp only[iB]at hfa hfb
  have fa:=dJ _ _ _ hfa
  have fb:=dJ _ _ _ hfb
  rw[hlv]at fa fb
  obtain⟨x,y,e1,e2,rfl⟩:=ga (P.cellsOf e) hr
  have hmin:min (P.cellsOf e) ((m+1) * P.cellsOf e)=P.cellsOf e:=by omega
  rw[List.take_take,hmin]at fa fb e1
  rw[List.take_take,hmin]at e1
  have hsub:(m+1) * P.cellsOf e - P.cellsOf e=m * P.cellsOf e:=by omega
  rw[List.drop_take,List.drop_drop,hsub,<- hmul2]at fa fb e2
  rw[List.drop_take,List.drop_drop,hsub,<- hmul2]at e2
  have r1:=ih _ _ u v x fa.1 fb.1 hu2 hv2 e1
  have r2 := iQ              hk hone hlv hA hB ih m (i + 1) y (by have : i + 1 + m = i + (m + 1) := by omega
                                                                  rw [this]; exact ha) (by have : i + 1 + m = i + (m + 1) := by omega
                                                                                           rw[this];exact hb) fa.2 fb.2 e2
  simp only[List.range'_succ,Op.eqItems,Sem.run_bind,hu1,hv1,r1,Result.andThen_ok]
  cases x
  . simp
  . simpa using r2
theorem fu:∀ {l:List TypeId} {cs:List SV},aQ P l cs=true->cs.length=l.length
 | [],[],_=>rfl
 | [],_ :: _,h=>by simp[aQ]at h
 | _ :: _,[],h=>by simp[aQ]at h
 | _ :: l,_ :: cs,h=>by
  simp only[aQ,bA]at h
  simp[fu h.2]
theorem cU               {w:World}{Im:Nat->Prop}{θ:Th}:∀ (d D:Nat) (t:TypeId),d<=D->bK      P d t=true->∀ (as bs:List SV) (u v:Value) (r:Bool),aQ      P (aK     P d t) as=true->aQ      P (aK     P d t) bs=true->
  sE P ω w Im θ t as u->sE P ω w Im θ t bs v->aX as bs=some r->(Op.equalIn D t u v).run P w= .ok r w
 | 0,_,t,_,h,_,_,_,_,_,_,_,_,_,_=>by simp[bK]at h
 | d+1,0,t,hd,_,_,_,_,_,_,_,_,_,_,_=>by omega
 | d+1,D+1,t,hd,h,as,bs,u,v,r,hfa,hfb,hA,hB,hr=>by
  have hll:=eM (d+1) t h
  unfold bK at h
  cases hu:P.underlying t with
  | none=>simp[hu]at h
  | some k=>
   have leafcase:aq P t=false->aK P (d+1) t=[t]->(Op.equalIn (D+1) t u v).run P w= .ok r w:=by
    intro hag hlv
    rcases hA with ⟨hc,_⟩ | ⟨_,a,rfl,ha⟩
    . rw[hag]at hc;cases hc
    rcases hB with ⟨hc,_⟩ | ⟨_,b,rfl,hb⟩
    . rw[hag]at hc;cases hc
    rw[hlv]at hfa hfb
    simp only[aQ,Bool.and_true]at hfa hfb
    exact wO hfa hfb (by simpa [aX]using hr) ha hb
   cases k <;> simp only[hu]at h <;> first
    | (refine leafcase ?_ ?_ <;> (simp[aq,aK,hu];done))
    | (cases h;done)
    | skip
   . rename_i n e
     simp only[bA]at h
     have hne:n * P.cellsOf e=P.cellsOf t:=nE h.2
     have hagg:aq P t=true:=by simp[aq,hu]
     rcases hA with ⟨_,xs,rfl,hA⟩ | ⟨hc,_⟩
     . rcases hB with ⟨_,ys,rfl,hB⟩ | ⟨hc,_⟩
       . have hun:∃ k,P.underlying e=some k:=by
           cases d with
           | zero=>simp[bK]at h
           | succ d=>
            have h1:=h.1
            unfold bK at h1
            cases hue:P.underlying e with
            | none=>simp[hue]at h1
            | some k=>exact⟨k,rfl⟩
         obtain⟨k,hk⟩:=hun
         have hone:aq P e=false->P.cellsOf e=1:=by
          intro hf
          cases d with
          | zero=>simp[bK]at h
          | succ d=>
           have h1:=h.1
           unfold bK at h1
           unfold aq at hf
           rw[hk]at h1 hf
           cases k <;> simp at h1 hf <;> first | exact h1 | skip
         obtain⟨i,hi⟩:=Go.info_of_underlying hk
         rw[run_equalIn_array w D xs ys hu hi,List.range_eq_range']
         have hlv:aK P (d+1) t=iB n (aK P d e):=by simp[aK,hu]
         rw[hlv]at hfa hfb hll
         have la:=fu hfa
         have lb:=fu hfb
         refine iQ hk hone (eM d e h.1) hA hB (fun as bs u v r=>cU d D e (by omega) h.1 as bs u v r) n 0 r (by simp;omega) (by simp;omega) ?_ ?_ ?_
         . simpa [hne,<- hll,<- la]using hfa
         . simpa [hne,<- hll,<- lb]using hfb
         . have e1:n * P.cellsOf e=as.length:=by omega
           have e2:n * P.cellsOf e=bs.length:=by omega
           simp only[Nat.zero_mul,List.drop_zero]
           rw[show as.take (n * P.cellsOf e)=as by rw[e1];simp,show bs.take (n * P.cellsOf e)=bs by rw[e2];simp]
           exact hr
       . rw[hagg]at hc;cases hc
     . rw[hagg]at hc;cases hc
   . rename_i fs
     simp only[bA]at h
     have hagg:aq P t=true:=by simp[aq,hu]
     rcases hA with ⟨_,xs,rfl,hA⟩ | ⟨hc,_⟩
     . rcases hB with ⟨_,ys,rfl,hB⟩ | ⟨hc,_⟩
       . have hfo:P.fieldsOf t=fs:=by simp[Program.fieldsOf,hu]
         rw[run_equalIn_struct w D t xs ys (by rw[hfo];exact hu) (by simpa using h.1),hfo]
         have hlv:aK P (d+1) t=fs.toList.flatMap fun f=>aK P d f.type:=by simp[aK,hu]
         rw[hlv]at hfa hfb hll
         have la:=fu hfa
         have lb:=fu hfb
         refine gU hA hB (fun t ht=>cU d D t (by omega) ht) fs.toList 0 (P.cellsOf t) r h.2 (by omega) (by omega) ?_ ?_ ?_
         . simpa [show(P.cellsOf t)=as.length by omega]using hfa
         . simpa [show(P.cellsOf t)=bs.length by omega]using hfb
         . simp only[List.drop_zero,Nat.sub_zero]
           rw[show as.take (P.cellsOf t)=as by rw[show P.cellsOf t=as.length by omega];simp,show bs.take (P.cellsOf t)=bs by rw[show P.cellsOf t=bs.length by omega];simp]
           exact hr
       . rw[hagg]at hc;cases hc
     . rw[hagg]at hc;cases hc
end Go.Am
namespace Go.Am
variable {P:Program} {ω:Nat->Value}
theorem inB_iff{i:Int}{n:Nat}:inB i n=true↔0<=i/\i < (n:Int):=by simp[inB]
theorem bo{e:TypeId}(h:bi P e=true):∃ i,P.info? e=some i:=Option.isSome_iff_exists.1 h
theorem bI{h:HpF}{b:Bool}{r0 r:SV}{ups:List (Nat × Option Chunk)}{nx nx':Nat}{rs:List Nat}(hm:af h (.ite b (.done r0 [] nx) .fail)=some (r,ups,nx',rs)):b=true/\r=r0/\ups=[]/\nx'=nx:=by
 cases b
 . simp[af]at hm
 . simp only[af,if_true,sJ,pJ]at hm
   exact⟨rfl,hm.1.symm,hm.2.1.symm,hm.2.2.1.symm⟩
theorem d6{bs:ByteArray}{s:List UInt8}(hs:bs.data.toList=s):bs.size=s.length:=by
 subst hs
 exact(Array.length_toList (xs:=bs.data)).symm
theorem AR{bs:ByteArray}{s:List UInt8}(hs:bs.data.toList=s){i:Nat}(h:i < s.length):bs[i]? =some (s.getD i 0):=by
 have h2:i < bs.size:=by rw[d6 hs];exact h
 rw[getElem?_pos bs i h2]
 subst hs
 have h3:i < bs.data.size:=h2
 show some (bs.data[i])=_
 rw[gD0,Array.getElem?_toList,Array.getElem?_eq_getElem h3]
 rfl
theorem rm           {h:HpF}{t:TypeId}{x ix:SV}{nx nx':Nat}{r:SV}{ups:List (Nat × Option Chunk)}{rs:List Nat}(hm:af   h (gk         P t x ix nx)=some (r,ups,nx',rs)){w:World}{Im:Nat->Prop}{θ:Th}{u ui:Value}(hx:VRel P ω w Im θ x u)(hi:VRel P ω w Im θ ix ui):
  ∃ v,(Instr.indexAt t u ui).run P w= .ok v w/\VRel P ω w Im θ r v/\ups=[]/\nx'=nx:=by
 unfold gk at hm
 split at hm
 . rename_i k i n e y off hu
   cases hi
   cases hx with
   | ptr hθ=>
    cases hk:bi P e with
    | false=>rw[hk]at hm;simp[af]at hm
    | true=>
     rw[hk]at hm
     obtain⟨hb,rfl,rfl,rfl⟩:=bI hm
     obtain⟨ie,hie⟩:=bo hk
     have hb':=inB_iff.1 hb
     refine⟨_,?_,.ptr hθ,rfl,rfl⟩
     simp[Instr.indexAt,asIntOf,run_underlying hu,Instr.sureAddr,hb',av hie,bv]
 . rename_i k i e y sz off n hu
   cases hi
   cases hk:bi P e with
   | false=>rw[hk]at hm;simp[af]at hm
   | true=>
    rw[hk]at hm
    obtain⟨hb,rfl,rfl,rfl⟩:=bI hm
    obtain⟨ie,hie⟩:=bo hk
    have hb':=inB_iff.1 hb
    cases hx with
    | sl hθ h1 h2=>
     refine⟨_,?_,.ptr hθ,rfl,rfl⟩
     simp[Instr.indexAt,asIntOf,run_underlying hu,hb',av hie,bv]
    | slnil=>exfalso;have:=hb'.2;omega
 . simp[af]at hm
theorem AS       {h:HpF}{t:TypeId}{x ix:SV}{nx nx':Nat}{r:SV}{ups:List (Nat × Option Chunk)}{rs:List Nat}(hm:af   h (qw     P t x ix nx)=some (r,ups,nx',rs)){w:World}{Im:Nat->Prop}{θ:Th}{u ui:Value}(hx:VRel P ω w Im θ x u)(hi:VRel P ω w Im θ ix ui):
  ∃ v,(Instr.index t u ui).run P w= .ok v w/\VRel P ω w Im θ r v/\ups=[]/\nx'=nx:=by
 unfold qw at hm
 split at hm
 . rename_i k i n e cs hu
   cases hi
   cases hx with
   | agg h1 h2=>
    rename_i us
    cases hk:bi P e with
    | false=>rw[hk]at hm;simp[af]at hm
    | true=>
     rw[hk]at hm
     simp only[cT]at hm
     cases hp:dR P e cs (i.toNat * P.cellsOf e)with
     | none=>rw[hp]at hm;simp[af]at hm
     | some v=>
      rw[hp]at hm
      obtain⟨hb,rfl,rfl,rfl⟩:=bI hm
      obtain⟨ie,hie⟩:=bo hk
      have hb':=inB_iff.1 hb
      have hl:LRel P ω w Im θ cs us.toList:=⟨by simpa using h1,fun i v u hv hu=>h2 i v u hv (by simpa using hu)⟩
      obtain⟨u,hru,hvu⟩:=lW hl hp
      refine⟨u,?_,hvu,rfl,rfl⟩
      simp[Instr.index,asIntOf,run_underlying hu,hb',av hie,hru]
 . rename_i k i s hu
   cases hi
   cases hx with
   | str hs=>
    rename_i bs
    obtain⟨hb,rfl,rfl,rfl⟩:=bI hm
    have hb':=inB_iff.1 hb
    have e:bs[i.toNat]? =some (s.getD i.toNat 0):=AR hs (by omega)
    refine⟨_,?_,.int,rfl,rfl⟩
    simp[Instr.index,asIntOf,run_underlying hu,hb'.1,e]
 . simp[af]at hm
theorem bX{w:World}{Im:Nat->Prop}{θ:Th}{o:Option SV}{u:Option Value}{d l:Int}(hb:ck o d=some l)(hn:o=none->u=none)(hs:∀ v,o=some v->∃ x,u=some x/\VRel P ω w Im θ v x):(u=none/\l=d)\/∃ k,u=some (.int k l):=by
 cases o with
 | none=>simp only[ck,sJ]at hb;exact .inl ⟨hn rfl,hb.symm⟩
 | some v=>
  obtain⟨x,rfl,hv⟩:=hs v rfl
  cases v <;> simp only[ck]at hb <;> try (cases hb;done)
  simp only[sJ]at hb
  subst hb
  cases hv
  exact .inr ⟨_,rfl⟩
theorem eW{w:World}{n cap:Nat}{lu hu:Option Value}{l h:Int}(hl:(lu=none/\l=0)\/∃ k,lu=some (.int k l))(hh:(hu=none/\h=(n:Int))\/∃ k,hu=some (.int k h))(h1:0<=l)(h2:l<=h)(h3:h<=(n:Int))(h4:n<=cap):
  (Instr.sliceBounds true n cap lu hu none).run P w= .ok (l.toNat,h.toNat,cap) w:=by
 have a1:0<=h:=by omega
 have a2:h<=(cap:Int):=by omega
 have a3:l<=(h.toNat:Int):=by omega
 rcases hl with ⟨rfl,rfl⟩ | ⟨k,rfl⟩ <;> rcases hh with ⟨rfl,rfl⟩ | ⟨k',rfl⟩ <;> simp[Instr.sliceBounds,Instr.sliceBound,asIntOf, *]
 all_goals (intro hx;exfalso;omega)
theorem AT       {h:HpF}{t:TypeId}{x:SV}{lo hi mx:Option SV}{nx nx':Nat}{r:SV}{ups:List (Nat × Option Chunk)}{rs:List Nat}(hm:af   h (tB     P t x lo hi mx nx)=some (r,ups,nx',rs)){w:World}{Im:Nat->Prop}{θ:Th}{u:Value}{ul uh um:Option Value}(hx:VRel P ω w Im θ x u)
  (l1:lo=none->ul=none) (l2:∀ v,lo=some v->∃ x,ul=some x/\VRel P ω w Im θ v x) (i1:hi=none->uh=none) (i2:∀ v,hi=some v->∃ x,uh=some x/\VRel P ω w Im θ v x) (m1:mx=none->um=none):
  ∃ v,(Instr.sliceAt t u ul uh um).run P w= .ok v w/\VRel P ω w Im θ r v/\ups=[]/\nx'=nx:=by
 unfold tB at hm
 split at hm
 case h_2=>simp[af]at hm
 rename_i e y sz off n hu
 obtain rfl:=m1 rfl
 split at hm
 case h_2=>simp[af]at hm
 rename_i l hh hl' hh'
 cases hk:bi P e&&Nat.beq sz (P.cellsOf e)with
 | false=>rw[hk]at hm;simp[af]at hm
 | true=>
  rw[hk]at hm
  simp only[cT]at hm
  simp only[bA]at hk
  obtain⟨ie,hie⟩:=bo hk.1
  have hsz:sz=P.cellsOf e:=nE hk.2
  have bl:=bX hl' l1 l2
  have bh:=bX hh' i1 i2
  unfold my at hm
  simp only[af]at hm
  split at hm
  case isFalse=>cases hm
  rename_i hc
  simp only[bA,decide_eq_true_eq]at hc
  obtain⟨⟨c1,c2⟩,c3⟩:=hc
  cases hx with
  | sl hθ h1 h2=>
   rename_i b N cap
   have hb:=eW (P:=P) (w:=w) bl bh c1 c2 c3 h2
   split at hm
   . rename_i hc2
     simp only[sJ,pJ]at hm
     obtain⟨rfl,rfl,rfl,_⟩:=hm
     simp only[Bool.or_eq_true,decide_eq_true_eq]at hc2
     refine⟨.slice (some ⟨b,off+l.toNat * sz,none⟩) (hh.toNat - l.toNat) (cap - l.toNat),?_,?_,rfl,rfl⟩
     . by_cases hcl:cap=l.toNat
       . have h0:l=0:=by omega
         subst h0
         have hc0:cap=0:=by simpa using hcl
         subst hc0
         simp[Instr.sliceAt,Instr.slice,run_underlying hu,hb,av hie]
       . simp[Instr.sliceAt,Instr.slice,run_underlying hu,hb,av hie,hcl,bv,hsz]
     . refine .sl hθ ?_ (by omega)
       have:(l.toNat+(cap - l.toNat)) * sz=cap * sz:=by congr 1;omega
       rw[Nat.add_assoc,<- Nat.add_mul,this];exact h1
   . rename_i hc2
     simp only[sJ,pJ]at hm
     obtain⟨rfl,rfl,rfl,_⟩:=hm
     simp only[Bool.or_eq_true,decide_eq_true_eq,not_or]at hc2
     refine⟨.slice (if cap=l.toNat then some ⟨b,off,none⟩else some ⟨b,off+l.toNat * sz,none⟩) 0 (cap - l.toNat),?_,.psl (fun _=>undef) rfl ⟨Nat.zero_le _,by intro h;split at h <;> cases h⟩ (fun v hv=>by cases hv) (fun i v hv=>by simp at hv) (fun hn=>absurd rfl hn),rfl,rfl⟩
     have e0:hh.toNat - l.toNat=0:=by omega
     by_cases hcl:cap=l.toNat
     . subst hcl
       simp[Instr.sliceAt,Instr.slice,run_underlying hu,hb,av hie,e0]
     . simp[Instr.sliceAt,Instr.slice,run_underlying hu,hb,av hie,hcl,bv,hsz,e0]
  | slnil=>
   have hb:=eW (P:=P) (w:=w) (cap:=0) bl bh c1 c2 c3 (Nat.le_refl _)
   have hl0:l=0:=by omega
   have hh0:hh=0:=by omega
   subst hl0
   subst hh0
   simp only[Int.ofNat_zero,decide_true,Bool.or_true,if_true,sJ,pJ]at hm
   obtain⟨rfl,rfl,rfl,_⟩:=hm
   refine⟨.slice none 0 0,?_,?_,rfl,rfl⟩
   . simp[Instr.sliceAt,Instr.slice,run_underlying hu,hb,av hie]
   . simpa using VRel'.slnil
theorem jx{w:World}{n:Nat}{lu hu:Option Value}{l h:Int}(hl:(lu=none/\l=0)\/∃ k,lu=some (.int k l))(hh:(hu=none/\h=(n:Int))\/∃ k,hu=some (.int k h))(h1:0<=l)(h2:l<=h)(h3:h<=(n:Int)):
  (Instr.sliceBounds false n n lu hu none).run P w= .ok (l.toNat,h.toNat,n) w:=by
 have a1:0<=h:=by omega
 have a3:l<=(h.toNat:Int):=by omega
 rcases hl with ⟨rfl,rfl⟩ | ⟨k,rfl⟩ <;> rcases hh with ⟨rfl,rfl⟩ | ⟨k',rfl⟩ <;> simp[Instr.sliceBounds,Instr.sliceBound,asIntOf, *]
 all_goals (intro hx;exfalso;omega)
theorem GB{h:HpF}{t:TypeId}{x:SV}{nx nx':Nat}{r:SV}{ups:List (Nat × Option Chunk)}{rs:List Nat}(hm:af h (GR P t x nx)=some (r,ups,nx',rs)){w:World}{Im:Nat->Prop}{θ:Th}{tys:Array TypeId}{ty:TypeId}{us:Array Value}{u:Value}(h1:tys[0]? =some t)(h2:us[0]? =some u)(hx:VRel P ω w Im θ x u):
  ∃ v,(Builtin.len_ tys ty us).run P w= .ok v w/\VRel P ω w Im θ r v/\ups=[]/\nx'=nx:=by
 unfold GR at hm
 split at hm <;> (try (simp[af]at hm;done)) <;> rename_i hu <;> simp only[af,sJ,pJ]at hm <;> obtain⟨rfl,rfl,rfl,_⟩:=hm
 . cases hx with
   | str hs=>
    rename_i bs
    refine⟨_,?_,.int,rfl,rfl⟩
    simp[Builtin.len_,h1,h2,run_underlying hu,goInt,d6 hs]
 . exact⟨_,by simp[Builtin.len_,h1,h2,run_underlying hu,goInt],.int,rfl,rfl⟩
 . cases hx <;> exact⟨_,by simp[Builtin.len_,h1,h2,run_underlying hu,goInt],.int,rfl,rfl⟩
 . cases hx;exact⟨_,by simp[Builtin.len_,h1,h2,run_underlying hu,goInt],.int,rfl,rfl⟩
 . cases hx with
   | psl us' e1 e0 e2 e3 e4=>exact⟨_,by simp[Builtin.len_,h1,h2,run_underlying hu,goInt,e1],.int,rfl,rfl⟩
end Go.Am
