/- Attributes are read: what reading comes to; the loop's summary. -/
import Derived.Test.YtdgnhaacdpmclaaGreatPart8
import Derived.Test.YtdgnhaacdpmclaaGreatMachine4
namespace Go.Proofs.YtdgnhaacdpmclaaGreat
open Go.Am
set_option maxRecDepth 100000
structure Dz where
 (pb cb mb : Bool) (d : Ds)
def dN (pb cb mb : Bool) (d : Ds) : Ds := ⟨d.ori, d.nx, d.med, d.prf, d.orr, d.tk, d.tl, d.tr, d.tg, d.hm, d.hp, d.ho, bif pb then [] else d.path, bif cb then [] else d.cl, bif mb then [] else d.cm, d.rch, d.unr⟩
def nZ (z : Dz) : Dz := ⟨z.pb, z.cb, z.mb, dN z.pb z.cb z.mb z.d⟩
def andN (a b : Int) : Int := IntKind.u8.wrap ((BitVec.ofInt 8 a &&& ~~~ BitVec.ofInt 8 b).toNat : Int)
def igC (g : Int) : Int := bif g == 16 then 48 else bif g == 22 then 48 else 16
def flC (g : Int) : Int := bif g == 1 then 64 else bif g == 2 then 64 else bif g == 4 then 128 else bif g == 5 then 64 else bif g == 9 then 128 else bif g == 10 then 128 else bif g == 14 then 128 else bif g == 15 then 128 else 192
def fitC (g fl : Int) : Bool := andN fl (igC g) == flC g
noncomputable def okC (g : Int) (v : List SV) : Bool := bif g == 1 then nmOk 52 v else bif g == 2 then ptOk v else bif g == 4 then nmOk 55 v else bif g == 5 then nmOk 56 v else bif g == 9 then nmOk 57 v else bif g == 10 then klOk v else bif g == 14 then rcOk v else bif g == 15 then unOk v else bif g == 16 then kmOk v else tnOk v
noncomputable def gD (g : Int) (v : List SV) (d : Ds) : Ds := bif g == 1 then nmF 52 d (tkN v 0 1) else bif g == 2 then ptG v d else bif g == 4 then nmF 55 d (tkN v 0 4) else bif g == 5 then nmF 56 d (tkN v 0 4) else bif g == 9 then nmF 57 d (tkN v 0 4) else bif g == 10 then klG v d else bif g == 14 then rcG v d else bif g == 15 then unG v d else bif g == 16 then kmG v d else tnG v d
noncomputable def gC (g : Int) (v : List SV) (z : Dz) : Dz := ⟨bif g == 2 then false else z.pb, bif g == 10 then false else z.cb, bif g == 16 then false else z.mb, gD g v z.d⟩
theorem hdN_ge {es : List SV} {a : Nat} : 3 ≤ hdN es a := by unfold hdN; split <;> omega
noncomputable def attL {σ : Type} (lk : σ → Int → Bool) (st : σ → Int → σ) (es : List SV) (n a : Nat) (at_ : Int) (s : σ) (z : Dz) : Int × Int × σ × Dz := by
 classical
 exact if a < n then
  if okN es a n then
   if knC (cdOf es a) = true then
    if fitC (cdOf es a) (dg es a) = true then
     if lk s (cdOf es a) = true then (11, a, s, z)
     else if okC (cdOf es a) (vl es (vS es a) (vE es a)) = true then attL lk st es n (vE es a) a (st s (cdOf es a)) (gC (cdOf es a) (vl es (vS es a) (vE es a)) z)
     else (3, a, s, z)
    else (17, a, s, z)
   else if (andI .u8 (dg es a) 128 == 0) = true then (17, a, s, z) else attL lk st es n (vE es a) a s z
  else (4, a, s, z)
 else (0, at_, s, z)
termination_by n - a
decreasing_by all_goals (have := hdN_ge (es := es) (a := a); unfold vE; omega)
def stK (kvs : List (Int × Bool)) (g : Int) : List (Int × Bool) := setB g true kvs
def tabC : Chunk := .cells 67 [.int .u8 1, .int .u8 64, .fn (.func 41) [] [], .int .u8 2, .int .u8 64, .fn (.func 42) [] [], .int .u8 4, .int .u8 128, .fn (.func 43) [] [], .int .u8 5, .int .u8 64, .fn (.func 44) [] [], .int .u8 9, .int .u8 128, .fn (.func 45) [] [],
 .int .u8 10, .int .u8 128, .fn (.func 46) [] [], .int .u8 14, .int .u8 128, .fn (.func 47) [] [], .int .u8 15, .int .u8 128, .fn (.func 48) [] [], .int .u8 16, .int .u8 192, .fn (.func 49) [] [], .int .u8 22, .int .u8 192, .fn (.func 50) [] []]
def filC : Chunk := .mpc [.int .u8 1, .int .u8 2, .int .u8 4, .int .u8 5, .int .u8 9, .int .u8 10, .int .u8 14, .int .u8 15, .int .u8 16, .int .u8 22]
 [.fn (.func 90) [] [.ptr 3 0, .ptr 4 0, .ptr 5 0], .fn (.func 53) [] [.ptr 6 0], .fn (.func 90) [] [.ptr 8 0, .ptr 9 0, .ptr 10 0], .fn (.func 90) [] [.ptr 11 0, .ptr 12 0, .ptr 13 0], .fn (.func 90) [] [.ptr 14 0, .ptr 15 0, .ptr 16 0],
  .fn (.func 58) [] [.ptr 6 0], .fn (.func 61) [] [.ptr 6 0], .fn (.func 63) [] [.ptr 6 0], .fn (.func 66) [] [.ptr 6 0], .fn (.func 68) [] [.ptr 6 0]]
def zC (z : Dz) : Chunk := dC z.pb z.cb z.mb z.d
def mH (er at_ : Int) (c : Chunk) (kvs : List (Int × Bool)) (r : Rd) (n : Nat) (es : List SV) : HpL :=
 [(0, .cells 37 [.int .i64 er, .int .i64 at_]), (1, tabC), (2, filC), (3, .cells 3 [.int .i64 1]), (4, .cells 42 [.int .u64 2]), (5, .cells 111 [.fn (.func 52) [] [.ptr 6 0]]), (6, .cells 109 [.ptr 7 0]), (7, c),
  (8, .cells 3 [.int .i64 4]), (9, .cells 42 [.int .u64 4294967295]), (10, .cells 111 [.fn (.func 55) [] [.ptr 6 0]]), (11, .cells 3 [.int .i64 4]), (12, .cells 42 [.int .u64 4294967295]), (13, .cells 111 [.fn (.func 56) [] [.ptr 6 0]]),
  (14, .cells 3 [.int .i64 4]), (15, .cells 42 [.int .u64 4294967295]), (16, .cells 111 [.fn (.func 57) [] [.ptr 6 0]]), (17, .mpb .u8 kvs), (18, rCk 19 r n), (19, .seq 5 es)]
def mOk (a n : Nat) (es : List SV) (kvs : List (Int × Bool)) (z : Dz) : Prop := byl es ∧ n = es.length ∧ n ≤ 1000000 ∧ a ≤ n ∧ nZ z = z ∧ (lookB kvs 2 = false → z.pb = true) ∧ (lookB kvs 10 = false → z.cb = true) ∧ (lookB kvs 16 = false → z.mb = true)
noncomputable abbrev attK := attL lookB stK
noncomputable def mEnd (o : Int × Int × List (Int × Bool) × Dz) (n : Nat) : CTree :=
 .ite (o.1 == 0) (.ret (.tup [.int .i64 2, .ptr 0 0, .mp 17]) [(0, some (.cells 37 [.int .i64 0, .int .i64 o.2.1])), (7, some (dC false false false o.2.2.2.d)), (17, some (.mpb .u8 o.2.2.1)), (18, none)])
  (.ret (.tup [.int .i64 2, .ptr 0 0, .mp 17]) [(0, some (.cells 37 [.int .i64 o.1, .int .i64 o.2.1])), (7, none), (17, none), (18, none)])
noncomputable def m_s : CSumm := fun args H => match args, H with
 | [.ptr 0 0, .ptr 1 0, .mp 2, .mp 17, .ptr 18 0], [(0, .cells 37 [.int .i64 er, .int .i64 at_]), _, _, _, _, _, _, (7, .cells 63 cs), _, _, _, _, _, _, _, _, _, (17, .mpb _ kvs), (18, .cells 121 [.int .i64 a, .int .i64 e, .qs 19 1 0 n, .int .i64 re, .int .i64 rf, _]), (19, .seq 5 es)] =>
  match dP cs with
  | some (pb, cb, mb, d) => .ite (er == 0) (.ite (dec (H = mH 0 at_ (zC ⟨pb, cb, mb, d⟩) kvs (RD a.toNat n) n es ∧ mOk a.toNat n es kvs ⟨pb, cb, mb, d⟩)) (mEnd (attK es n a.toNat at_ kvs ⟨pb, cb, mb, d⟩) n) .fail)
    (.ite (dec (H = mH er at_ (zC ⟨pb, cb, mb, d⟩) kvs ⟨a, e, re, rf⟩ n es)) (.ret (.tup [.int .i64 2, .ptr 0 0, .mp 17]) [(7, none), (17, none), (18, none)]) .fail)
  | none => .ite (er == 0) .fail (.ite (dec (H = mH er at_ jk kvs ⟨a, e, re, rf⟩ n es)) (.ret (.tup [.int .i64 2, .ptr 0 0, .mp 17]) [(7, none), (17, none), (18, none)]) .fail)
 | _, _ => .fail
def mM : List SV → HpL → Nat
 | _, [(0, .cells 37 [.int .i64 er, _]), _, _, _, _, _, _, _, _, _, _, _, _, _, _, _, _, _, (18, .cells 121 [.int .i64 a, _, .qs _ _ _ n, _, _, _]), _] => bif er == 0 then n - a.toNat + 1 else 0
 | _, _ => 0
noncomputable def body9 : Code := Tryz.f9.body.getD .skip
noncomputable def c9 : Code := (loopAt 4 body9).getD .skip
noncomputable def e9 : LEnt := { ins := [5, 7, 8, 9, 10], outs := [5, 9], keep := [0, 2, 6], size := 119, code := c9, s := m_s }
noncomputable abbrev κma (s : CSumm) := openT Tryz.prog (tbl [(24, s), (90, nm_s), (53, fl_s (fun pb _ _ => pb) ptOk ptG (fun _ => false) id id), (58, fl_s (fun pb cb mb => cb) klOk klG id (fun _ => false) id), (61, fl_s (fun _ _ _ => true) rcOk rcG id id id), (63, fl_s (fun _ _ _ => true) unOk unG id id id), (66, fl_s (fun pb cb mb => mb) kmOk kmG id id (fun _ => false)), (68, fl_s (fun _ _ _ => true) tnOk tnG id id id)]) 300 5
theorem mOkT {s : CSumm} (h : Known Tryz.prog 24 s) : KOk Tryz.prog (κma s) := openT_ok noNumTry mixTry (tbl_cons h (tbl_cons nm_k (tbl_cons path_k (tbl_cons klF_k (tbl_cons rch_k (tbl_cons unr_k (tbl_cons kmF_k (tbl_cons tn_k ok0)))))))) 300 5
noncomputable abbrev ιma : Nat → Bool := fun g => inl (tbl [(24, num_s), (90, num_s), (53, num_s), (58, num_s), (61, num_s), (63, num_s), (66, num_s), (68, num_s)]) g && hasBody Tryz.prog g
/- The rest of the loop behind a round. -/
noncomputable def mGo (N : Nat) (at_ : Int) (z : Dz) (kvs : List (Int × Bool)) (r : Rd) (n : Nat) (es : List SV) (K : Int × Int × List (Int × Bool) × Dz → CTree) : CTree :=
 bif Nat.blt (n - r.at_.toNat + 1) N then bif dec (mH 0 at_ (zC z) kvs r n es = mH 0 at_ (zC z) kvs (RD r.at_.toNat n) n es ∧ mOk r.at_.toNat n es kvs (nZ z)) then K (attK es n r.at_.toNat at_ kvs (nZ z)) else .fail else .fail
noncomputable def mBad (N : Nat) (er at_ : Int) (c : Chunk) (kvs : List (Int × Bool)) (r : Rd) (n : Nat) (es : List SV) (K : CTree) : CTree :=
 bif Nat.blt 0 N then bif dec (mH er at_ c kvs r n es = mH er at_ c kvs r n es) then K else .fail else .fail
end Go.Proofs.YtdgnhaacdpmclaaGreat
/- Attributes are read: rounds of the loop. -/
namespace Go.Proofs.YtdgnhaacdpmclaaGreat
open Go.Am
set_option maxRecDepth 100000
abbrev mArg : List SV := [.ptr 0 0, .ptr 1 0, .mp 2, .mp 17, .ptr 18 0]
noncomputable abbrev mOnce (N : Nat) (s : CSumm) : CSumm := loopOnce Tryz.prog (κma s) ιma (ltab []) true 300 e9 { e9 with s := boundT mM m_s N } c9
noncomputable def no_s : CSumm := fun _ _ => .fail
theorem no_k : Known Tryz.prog 24 no_s := nu_k.weak (fun _ _ _ _ h => by cases h)
theorem m_x1 (N : Nat) (er at_ : Int) (pb cb mb : Bool) (d : Ds) (kvs : List (Int × Bool)) (r : Rd) (n : Nat) (es : List SV) : mOnce N no_s mArg (mH er at_ (dC pb cb mb d) kvs r n es) =
 bif (bif er == 0 then decide (lfI r > 0) else false) then .fail else .ret (.tup [.int .i64 2, .ptr 0 0, .mp 17]) [] := by cases pb <;> cases cb <;> cases mb <;> kernel_rfl
theorem m_x2 (N : Nat) (er at_ : Int) (kvs : List (Int × Bool)) (r : Rd) (n : Nat) (es : List SV) : mOnce N no_s mArg (mH er at_ jk kvs r n es) =
 bif (bif er == 0 then decide (lfI r > 0) else false) then .fail else .ret (.tup [.int .i64 2, .ptr 0 0, .mp 17]) [] := by kernel_rfl
noncomputable def mK (o : Int × Int × List (Int × Bool) × Dz) : CTree :=
 bif o.1 == 0 then .ret (.tup [.int .i64 2, .ptr 0 0, .mp 17]) [(17, some (.mpb .u8 o.2.2.1)), (7, some (dC false false false o.2.2.2.d)), (0, some (.cells 37 [.int .i64 0, .int .i64 o.2.1])), (18, none)]
 else .ret (.tup [.int .i64 2, .ptr 0 0, .mp 17]) [(17, none), (7, none), (0, some (.cells 37 [.int .i64 o.1, .int .i64 o.2.1])), (18, none)]
def mX (er at_ : Int) : CTree := .ret (.tup [.int .i64 2, .ptr 0 0, .mp 17]) [(7, none), (17, none), (0, some (.cells 37 [.int .i64 er, .int .i64 at_])), (18, none)]
def mX' (er at_ : Int) : CTree := .ret (.tup [.int .i64 2, .ptr 0 0, .mp 17]) [(17, none), (7, none), (0, some (.cells 37 [.int .i64 er, .int .i64 at_])), (18, none)]
noncomputable def mRd (N : Nat) (g : Int) (pb cb mb : Bool) (d : Ds) (kvs : List (Int × Bool)) (r : Rd) (n : Nat) (es : List SV) (C : Prop) : CTree :=
 bif decide (lfI r > 0) then bif dec (r = RD r.at_.toNat n ∧ cdN es r.at_.toNat n ∧ okN es r.at_.toNat n ∧ cdOf es r.at_.toNat = g) then
  bif !(fitC g (dg es r.at_.toNat)) then mBad N 17 r.at_.toNat (dC pb cb mb d) (stK kvs g) (RD (vE es r.at_.toNat) n) n es (mX 17 r.at_.toNat) else
  bif lookB kvs g then mBad N 11 r.at_.toNat (dC pb cb mb d) (stK kvs g) (RD (vE es r.at_.toNat) n) n es (mX 11 r.at_.toNat) else
  bif dec C then
   bif okC g (vl es (vS es r.at_.toNat) (vE es r.at_.toNat)) then mGo N r.at_.toNat (gC g (vl es (vS es r.at_.toNat) (vE es r.at_.toNat)) (nZ ⟨pb, cb, mb, d⟩)) (stK kvs g) (RD (vE es r.at_.toNat) n) n es mK
   else mBad N 3 r.at_.toNat jk (stK kvs g) (RD (vE es r.at_.toNat) n) n es (mX' 3 r.at_.toNat) else .fail
 else .fail else .ret (.tup [.int .i64 2, .ptr 0 0, .mp 17]) []
end Go.Proofs.YtdgnhaacdpmclaaGreat
/- Attributes are read: rounds with the codes 1 to 9. -/
namespace Go.Proofs.YtdgnhaacdpmclaaGreat
open Go.Am
set_option maxRecDepth 100000
theorem m_1 (N : Nat) (at_ : Int) (pb cb mb : Bool) (d : Ds) (kvs : List (Int × Bool)) (r : Rd) (n : Nat) (es : List SV) : mOnce N (nx_s 1) mArg (mH 0 at_ (dC pb cb mb d) kvs r n es) =
 mRd N 1 pb cb mb d kvs r n es (nmH (RD (vS es r.at_.toNat) (vE es r.at_.toNat)) n es (nmZ 52) (nmLim 52) 52 pb cb mb d = nmH (RD (vS es r.at_.toNat) (vE es r.at_.toNat)) n es (nmZ 52) (nmLim 52) 52 pb cb mb (dN pb cb mb d) ∧ okV es n (vS es r.at_.toNat) (vE es r.at_.toNat) ∧ (52 = 52 ∨ 52 = 55 ∨ 52 = 56 ∨ 52 = 57)) := by cases pb <;> cases cb <;> cases mb <;> kernel_rfl
theorem m_2 (N : Nat) (at_ : Int) (pb cb mb : Bool) (d : Ds) (kvs : List (Int × Bool)) (r : Rd) (n : Nat) (es : List SV) : mOnce N (nx_s 2) mArg (mH 0 at_ (dC pb cb mb d) kvs r n es) =
 mRd N 2 pb cb mb d kvs r n es (flH (RD (vS es r.at_.toNat) (vE es r.at_.toNat)) n es pb cb mb d = flH (RD (vS es r.at_.toNat) (vE es r.at_.toNat)) n es pb cb mb (dN pb cb mb d) ∧ okV es n (vS es r.at_.toNat) (vE es r.at_.toNat) ∧ pb = true) := by cases pb <;> cases cb <;> cases mb <;> kernel_rfl
theorem m_4 (N : Nat) (at_ : Int) (pb cb mb : Bool) (d : Ds) (kvs : List (Int × Bool)) (r : Rd) (n : Nat) (es : List SV) : mOnce N (nx_s 4) mArg (mH 0 at_ (dC pb cb mb d) kvs r n es) =
 mRd N 4 pb cb mb d kvs r n es (nmH (RD (vS es r.at_.toNat) (vE es r.at_.toNat)) n es (nmZ 55) (nmLim 55) 55 pb cb mb d = nmH (RD (vS es r.at_.toNat) (vE es r.at_.toNat)) n es (nmZ 55) (nmLim 55) 55 pb cb mb (dN pb cb mb d) ∧ okV es n (vS es r.at_.toNat) (vE es r.at_.toNat) ∧ (55 = 52 ∨ 55 = 55 ∨ 55 = 56 ∨ 55 = 57)) := by cases pb <;> cases cb <;> cases mb <;> kernel_rfl
theorem m_5 (N : Nat) (at_ : Int) (pb cb mb : Bool) (d : Ds) (kvs : List (Int × Bool)) (r : Rd) (n : Nat) (es : List SV) : mOnce N (nx_s 5) mArg (mH 0 at_ (dC pb cb mb d) kvs r n es) =
 mRd N 5 pb cb mb d kvs r n es (nmH (RD (vS es r.at_.toNat) (vE es r.at_.toNat)) n es (nmZ 56) (nmLim 56) 56 pb cb mb d = nmH (RD (vS es r.at_.toNat) (vE es r.at_.toNat)) n es (nmZ 56) (nmLim 56) 56 pb cb mb (dN pb cb mb d) ∧ okV es n (vS es r.at_.toNat) (vE es r.at_.toNat) ∧ (56 = 52 ∨ 56 = 55 ∨ 56 = 56 ∨ 56 = 57)) := by cases pb <;> cases cb <;> cases mb <;> kernel_rfl
theorem m_9 (N : Nat) (at_ : Int) (pb cb mb : Bool) (d : Ds) (kvs : List (Int × Bool)) (r : Rd) (n : Nat) (es : List SV) : mOnce N (nx_s 9) mArg (mH 0 at_ (dC pb cb mb d) kvs r n es) =
 mRd N 9 pb cb mb d kvs r n es (nmH (RD (vS es r.at_.toNat) (vE es r.at_.toNat)) n es (nmZ 57) (nmLim 57) 57 pb cb mb d = nmH (RD (vS es r.at_.toNat) (vE es r.at_.toNat)) n es (nmZ 57) (nmLim 57) 57 pb cb mb (dN pb cb mb d) ∧ okV es n (vS es r.at_.toNat) (vE es r.at_.toNat) ∧ (57 = 52 ∨ 57 = 55 ∨ 57 = 56 ∨ 57 = 57)) := by cases pb <;> cases cb <;> cases mb <;> kernel_rfl
end Go.Proofs.YtdgnhaacdpmclaaGreat
/- Attributes are read: rounds with the codes 10 to 22. -/
namespace Go.Proofs.YtdgnhaacdpmclaaGreat
open Go.Am
set_option maxRecDepth 100000
theorem m_10 (N : Nat) (at_ : Int) (pb cb mb : Bool) (d : Ds) (kvs : List (Int × Bool)) (r : Rd) (n : Nat) (es : List SV) : mOnce N (nx_s 10) mArg (mH 0 at_ (dC pb cb mb d) kvs r n es) =
 mRd N 10 pb cb mb d kvs r n es (flH (RD (vS es r.at_.toNat) (vE es r.at_.toNat)) n es pb cb mb d = flH (RD (vS es r.at_.toNat) (vE es r.at_.toNat)) n es pb cb mb (dN pb cb mb d) ∧ okV es n (vS es r.at_.toNat) (vE es r.at_.toNat) ∧ cb = true) := by cases pb <;> cases cb <;> cases mb <;> kernel_rfl
theorem m_14 (N : Nat) (at_ : Int) (pb cb mb : Bool) (d : Ds) (kvs : List (Int × Bool)) (r : Rd) (n : Nat) (es : List SV) : mOnce N (nx_s 14) mArg (mH 0 at_ (dC pb cb mb d) kvs r n es) =
 mRd N 14 pb cb mb d kvs r n es (flH (RD (vS es r.at_.toNat) (vE es r.at_.toNat)) n es pb cb mb d = flH (RD (vS es r.at_.toNat) (vE es r.at_.toNat)) n es pb cb mb (dN pb cb mb d) ∧ okV es n (vS es r.at_.toNat) (vE es r.at_.toNat) ∧ true = true) := by cases pb <;> cases cb <;> cases mb <;> kernel_rfl
theorem m_15 (N : Nat) (at_ : Int) (pb cb mb : Bool) (d : Ds) (kvs : List (Int × Bool)) (r : Rd) (n : Nat) (es : List SV) : mOnce N (nx_s 15) mArg (mH 0 at_ (dC pb cb mb d) kvs r n es) =
 mRd N 15 pb cb mb d kvs r n es (flH (RD (vS es r.at_.toNat) (vE es r.at_.toNat)) n es pb cb mb d = flH (RD (vS es r.at_.toNat) (vE es r.at_.toNat)) n es pb cb mb (dN pb cb mb d) ∧ okV es n (vS es r.at_.toNat) (vE es r.at_.toNat) ∧ true = true) := by cases pb <;> cases cb <;> cases mb <;> kernel_rfl
theorem m_16 (N : Nat) (at_ : Int) (pb cb mb : Bool) (d : Ds) (kvs : List (Int × Bool)) (r : Rd) (n : Nat) (es : List SV) : mOnce N (nx_s 16) mArg (mH 0 at_ (dC pb cb mb d) kvs r n es) =
 mRd N 16 pb cb mb d kvs r n es (flH (RD (vS es r.at_.toNat) (vE es r.at_.toNat)) n es pb cb mb d = flH (RD (vS es r.at_.toNat) (vE es r.at_.toNat)) n es pb cb mb (dN pb cb mb d) ∧ okV es n (vS es r.at_.toNat) (vE es r.at_.toNat) ∧ mb = true) := by cases pb <;> cases cb <;> cases mb <;> kernel_rfl
theorem m_22 (N : Nat) (at_ : Int) (pb cb mb : Bool) (d : Ds) (kvs : List (Int × Bool)) (r : Rd) (n : Nat) (es : List SV) : mOnce N (nx_s 22) mArg (mH 0 at_ (dC pb cb mb d) kvs r n es) =
 mRd N 22 pb cb mb d kvs r n es (flH (RD (vS es r.at_.toNat) (vE es r.at_.toNat)) n es pb cb mb d = flH (RD (vS es r.at_.toNat) (vE es r.at_.toNat)) n es pb cb mb (dN pb cb mb d) ∧ okV es n (vS es r.at_.toNat) (vE es r.at_.toNat) ∧ true = true) := by cases pb <;> cases cb <;> cases mb <;> kernel_rfl
end Go.Proofs.YtdgnhaacdpmclaaGreat
/- Attributes are read: rounds with cut and unknown attributes. -/
namespace Go.Proofs.YtdgnhaacdpmclaaGreat
open Go.Am
set_option maxRecDepth 100000
theorem m_cut (N : Nat) (at_ : Int) (pb cb mb : Bool) (d : Ds) (kvs : List (Int × Bool)) (r : Rd) (n : Nat) (es : List SV) : mOnce N nc_s mArg (mH 0 at_ (dC pb cb mb d) kvs r n es) =
 bif decide (lfI r > 0) then bif dec (r = RD r.at_.toNat n ∧ cdN es r.at_.toNat n ∧ ¬ okN es r.at_.toNat n) then
  mBad N 4 r.at_.toNat (dC pb cb mb d) kvs (cutQ es r.at_.toNat n).2.2 n es (.ret (.tup [.int .i64 2, .ptr 0 0, .mp 17]) [(17, none), (7, none), (0, some (.cells 37 [.int .i64 4, .int .i64 r.at_.toNat])), (18, none)])
 else .fail else .ret (.tup [.int .i64 2, .ptr 0 0, .mp 17]) [] := by cases pb <;> cases cb <;> cases mb <;> kernel_rfl
noncomputable abbrev κmu := openT Tryz.prog (tbl [(24, nu_s), (25, no_s)]) 300 5
theorem no25 : Known Tryz.prog 25 no_s := (openKnown (f := 25) ok0 Tryz.func25 rfl).weak (fun _ _ _ _ h => by cases h)
theorem muOkT : KOk Tryz.prog κmu := openT_ok noNumTry mixTry (tbl_cons nu_k (tbl_cons no25 ok0)) 300 5
noncomputable abbrev ιmu : Nat → Bool := fun g => inl (tbl [(24, num_s), (25, num_s)]) g && hasBody Tryz.prog g
noncomputable def unkT (g : Int) (K : CTree) : CTree := bif 1 != g then bif 2 != g then bif 4 != g then bif 5 != g then bif 9 != g then bif 10 != g then bif 14 != g then bif 15 != g then bif 16 != g then bif 22 != g then K else .fail else .fail else .fail else .fail else .fail else .fail else .fail else .fail else .fail else .fail
theorem m_unk (N : Nat) (at_ : Int) (pb cb mb : Bool) (d : Ds) (kvs : List (Int × Bool)) (r : Rd) (n : Nat) (es : List SV) : loopOnce Tryz.prog κmu ιmu (ltab []) true 300 e9 { e9 with s := boundT mM m_s N } c9 mArg (mH 0 at_ (dC pb cb mb d) kvs r n es) =
 bif decide (lfI r > 0) then bif dec (r = RD r.at_.toNat n ∧ cdN es r.at_.toNat n ∧ okN es r.at_.toNat n ∧ knC (cdOf es r.at_.toNat) = false) then
  unkT (cdOf es r.at_.toNat) (bif andI .u8 (dg es r.at_.toNat) 128 == 0 then mBad N 17 r.at_.toNat (dC pb cb mb d) kvs (RD (vE es r.at_.toNat) n) n es (.ret (.tup [.int .i64 2, .ptr 0 0, .mp 17]) [(17, none), (7, none), (0, some (.cells 37 [.int .i64 17, .int .i64 r.at_.toNat])), (18, none)])
   else mGo N r.at_.toNat ⟨pb, cb, mb, d⟩ kvs (RD (vE es r.at_.toNat) n) n es mK)
 else .fail else .ret (.tup [.int .i64 2, .ptr 0 0, .mp 17]) [] := by cases pb <;> cases cb <;> cases mb <;> kernel_rfl
end Go.Proofs.YtdgnhaacdpmclaaGreat
/- Attributes are read: the main loop, steps of what it comes to. -/
namespace Go.Proofs.YtdgnhaacdpmclaaGreat
open Go.Am
set_option maxRecDepth 100000
section
variable {σ : Type} {lk : σ → Int → Bool} {st : σ → Int → σ} {es : List SV} {n a : Nat} {at_ : Int} {s : σ} {z : Dz}
theorem attL_end (h : ¬ a < n) : attL lk st es n a at_ s z = (0, at_, s, z) := by rw [attL, if_neg h]
theorem attL_cut (h : a < n) (ho : ¬ okN es a n) : attL lk st es n a at_ s z = (4, (a : Int), s, z) := by rw [attL, if_pos h, if_neg ho]
theorem attL_u17 (h : a < n) (ho : okN es a n) (hk : knC (cdOf es a) = false) (hf : (andI .u8 (dg es a) 128 == 0) = true) : attL lk st es n a at_ s z = (17, (a : Int), s, z) := by rw [attL, if_pos h, if_pos ho, if_neg (by rw [hk]; decide), if_pos hf]
theorem attL_unk (h : a < n) (ho : okN es a n) (hk : knC (cdOf es a) = false) (hf : (andI .u8 (dg es a) 128 == 0) = false) : attL lk st es n a at_ s z = attL lk st es n (vE es a) a s z := by rw [attL, if_pos h, if_pos ho, if_neg (by rw [hk]; decide), if_neg (by rw [hf]; decide)]
theorem attL_fit (h : a < n) (ho : okN es a n) (hk : knC (cdOf es a) = true) (hf : fitC (cdOf es a) (dg es a) = false) : attL lk st es n a at_ s z = (17, (a : Int), s, z) := by rw [attL, if_pos h, if_pos ho, if_pos hk, if_neg (by rw [hf]; decide)]
theorem attL_dbl (h : a < n) (ho : okN es a n) (hk : knC (cdOf es a) = true) (hf : fitC (cdOf es a) (dg es a) = true) (hl : lk s (cdOf es a) = true) : attL lk st es n a at_ s z = (11, (a : Int), s, z) := by rw [attL, if_pos h, if_pos ho, if_pos hk, if_pos hf, if_pos hl]
theorem attL_bad (h : a < n) (ho : okN es a n) (hk : knC (cdOf es a) = true) (hf : fitC (cdOf es a) (dg es a) = true) (hl : lk s (cdOf es a) = false) (hv : okC (cdOf es a) (vl es (vS es a) (vE es a)) = false) : attL lk st es n a at_ s z = (3, (a : Int), s, z) := by
 rw [attL, if_pos h, if_pos ho, if_pos hk, if_pos hf, if_neg (by rw [hl]; decide), if_neg (by rw [hv]; decide)]
theorem attL_go (h : a < n) (ho : okN es a n) (hk : knC (cdOf es a) = true) (hf : fitC (cdOf es a) (dg es a) = true) (hl : lk s (cdOf es a) = false) (hv : okC (cdOf es a) (vl es (vS es a) (vE es a)) = true) :
  attL lk st es n a at_ s z = attL lk st es n (vE es a) a (st s (cdOf es a)) (gC (cdOf es a) (vl es (vS es a) (vE es a)) z) := by
 rw [attL, if_pos h, if_pos ho, if_pos hk, if_pos hf, if_neg (by rw [hl]; decide), if_pos hv]
end
theorem knC_of {g : Int} (h : knC g = true) : g = 1 ∨ g = 2 ∨ g = 4 ∨ g = 5 ∨ g = 9 ∨ g = 10 ∨ g = 14 ∨ g = 15 ∨ g = 16 ∨ g = 22 := by
 unfold knC at h
 simp only [cond_eq_ite, beq_iff_eq] at h
 repeat' split at h
 all_goals first | omega | (have := h; simp at this; omega)
theorem knC_no {g : Int} (h : knC g = false) : (1 != g) = true ∧ (2 != g) = true ∧ (4 != g) = true ∧ (5 != g) = true ∧ (9 != g) = true ∧ (10 != g) = true ∧ (14 != g) = true ∧ (15 != g) = true ∧ (16 != g) = true ∧ (22 != g) = true := by
 have hn : ∀ k : Int, (k = 1 ∨ k = 2 ∨ k = 4 ∨ k = 5 ∨ k = 9 ∨ k = 10 ∨ k = 14 ∨ k = 15 ∨ k = 16 ∨ k = 22) → (k != g) = true := by
  intro k hk
  rw [bne_iff_ne]
  rintro rfl
  rcases hk with rfl | rfl | rfl | rfl | rfl | rfl | rfl | rfl | rfl | rfl <;> cases h
 exact ⟨hn 1 (by omega), hn 2 (by omega), hn 4 (by omega), hn 5 (by omega), hn 9 (by omega), hn 10 (by omega), hn 14 (by omega), hn 15 (by omega), hn 16 (by omega), hn 22 (by omega)⟩
theorem unkT_ok {g : Int} (h : knC g = false) (K : CTree) : unkT g K = K := by
 obtain ⟨h1, h2, h3, h4, h5, h6, h7, h8, h9, h10⟩ := knC_no h
 unfold unkT
 rw [h1, h2, h3, h4, h5, h6, h7, h8, h9, h10]; rfl
theorem nZ_iff {z : Dz} : nZ z = z ↔ (z.pb = true → z.d.path = []) ∧ (z.cb = true → z.d.cl = []) ∧ (z.mb = true → z.d.cm = []) := by
 obtain ⟨pb, cb, mb, ⟨a1, a2, a3, a4, a5, a6, a7, a8, a9, b1, b2, b3, p, c, m, r, u⟩⟩ := z
 unfold nZ dN
 simp only [Dz.mk.injEq, Ds.mk.injEq, true_and, and_true]
 refine and_congr ?_ (and_congr ?_ ?_)
 · cases pb <;> simp [eq_comm]
 · cases cb <;> simp [eq_comm]
 · cases mb <;> simp [eq_comm]
theorem gD_lists {g : Int} (h : knC g = true) (v : List SV) (d : Ds) : (g ≠ 2 → (gD g v d).path = d.path) ∧ (g ≠ 10 → (gD g v d).cl = d.cl) ∧ (g ≠ 16 → (gD g v d).cm = d.cm) := by
 rcases knC_of h with rfl | rfl | rfl | rfl | rfl | rfl | rfl | rfl | rfl | rfl <;> refine ⟨fun hh => ?_, fun hh => ?_, fun hh => ?_⟩ <;> first | rfl | exact absurd rfl hh
theorem gC_nz {g : Int} (h : knC g = true) (v : List SV) {z : Dz} (hz : nZ z = z) : nZ (gC g v z) = gC g v z := by
 obtain ⟨h1, h2, h3⟩ := nZ_iff.1 hz
 obtain ⟨q1, q2, q3⟩ := gD_lists h v z.d
 refine nZ_iff.2 ⟨fun hp => ?_, fun hp => ?_, fun hp => ?_⟩
 · by_cases hg : g = 2
   · subst hg; cases hp
   · have : (g == 2) = false := by simpa using hg
     simp only [gC, this, cond_false] at hp ⊢
     rw [q1 hg]; exact h1 hp
 · by_cases hg : g = 10
   · subst hg; cases hp
   · have : (g == 10) = false := by simpa using hg
     simp only [gC, this, cond_false] at hp ⊢
     rw [q2 hg]; exact h2 hp
 · by_cases hg : g = 16
   · subst hg; cases hp
   · have : (g == 16) = false := by simpa using hg
     simp only [gC, this, cond_false] at hp ⊢
     rw [q3 hg]; exact h3 hp
theorem lookB_set (g : Int) (b : Bool) : ∀ (kvs : List (Int × Bool)) (k : Int), lookB (setB g b kvs) k = bif k == g then b else lookB kvs k
 | [], k => by
  show (bif k == g then b else false) = _
  rfl
 | (x, y) :: l, k => by
  have ih := lookB_set g b l k
  unfold setB
  cases hx : g == x with
  | true =>
   have : g = x := by simpa using hx
   subst this
   show (bif k == g then b else lookB l k) = bif k == g then b else bif k == g then y else lookB l k
   cases k == g <;> rfl
  | false =>
   show (bif k == x then y else lookB (setB g b l) k) = bif k == g then b else bif k == x then y else lookB l k
   rw [ih]
   cases hk : k == x with
   | false => rfl
   | true =>
    have : k = x := by simpa using hk
    subst this
    have : (k == g) = false := beq_eq_false_iff_ne.2 (Ne.symm (beq_eq_false_iff_ne.1 hx))
    rw [this]; rfl
theorem mOk_next {a b n : Nat} {es : List SV} {kvs : List (Int × Bool)} {z : Dz} {g : Int} (v : List SV) (hg : knC g = true) (h : mOk a n es kvs z) (hb : b ≤ n) : mOk b n es (stK kvs g) (gC g v z) := by
 obtain ⟨h1, h2, h3, h4, h5, h6, h7, h8⟩ := h
 have hs : ∀ k : Int, lookB (stK kvs g) k = bif k == g then true else lookB kvs k := lookB_set g true kvs
 refine ⟨h1, h2, h3, hb, gC_nz hg v h5, fun hh => ?_, fun hh => ?_, fun hh => ?_⟩
 · rw [hs] at hh
   by_cases hk : g = 2
   · subst hk; cases hh
   · have e1 : (g == 2) = false := by simpa using hk
     have e2 : ((2 : Int) == g) = false := beq_eq_false_iff_ne.2 (Ne.symm hk)
     rw [e2] at hh
     simp only [gC, e1, cond_false]; exact h6 hh
 · rw [hs] at hh
   by_cases hk : g = 10
   · subst hk; cases hh
   · have e1 : (g == 10) = false := by simpa using hk
     have e2 : ((10 : Int) == g) = false := beq_eq_false_iff_ne.2 (Ne.symm hk)
     rw [e2] at hh
     simp only [gC, e1, cond_false]; exact h7 hh
 · rw [hs] at hh
   by_cases hk : g = 16
   · subst hk; cases hh
   · have e1 : (g == 16) = false := by simpa using hk
     have e2 : ((16 : Int) == g) = false := beq_eq_false_iff_ne.2 (Ne.symm hk)
     rw [e2] at hh
     simp only [gC, e1, cond_false]; exact h8 hh
end Go.Proofs.YtdgnhaacdpmclaaGreat
/- Attributes are read: the main loop, known. -/
namespace Go.Proofs.YtdgnhaacdpmclaaGreat
open Go.Am
set_option maxRecDepth 100000
def Goes (H : HpL) (t : CTree) (v' : SV) (ups' : List (Nat × Option Chunk)) : Prop :=
 (∃ ups, crun t = some (v', ups) ∧ ∀ x, updF ups' H.get x = updF ups H.get x) ∨ (∃ v ups, crun t = some (v, ups) ∧ Renamed H v ups v' ups') ∨ (∃ v ups, crun t = some (v, ups) ∧ ToldL Tryz.prog H v ups v' ups')
theorem p4a {h : HpF} {a b c e : Option Chunk} : ∀ x, updF [(0, a), (7, b), (17, c), (18, e)] h x = updF [(17, c), (7, b), (0, a), (18, e)] h x := by
 intro x
 simp only [updF]
 by_cases h18 : x = 18
 · simp only [h18, if_true]
 · by_cases h17 : x = 17
   · subst h17; rfl
   · by_cases h7 : x = 7
     · subst h7; rfl
     · simp only [h18, h17, h7, if_false]
theorem p4b {h : HpF} {a b c e : Option Chunk} : ∀ x, updF [(0, a), (7, b), (17, c), (18, e)] h x = updF [(7, b), (17, c), (0, a), (18, e)] h x := by
 intro x
 simp only [updF]
 by_cases h18 : x = 18
 · simp only [h18, if_true]
 · by_cases h17 : x = 17
   · subst h17; rfl
   · by_cases h7 : x = 7
     · subst h7; rfl
     · simp only [h18, h17, h7, if_false]
theorem told_drop {H : HpL} {v : SV} {c : Int} {vs : List SV} (hv : v = .tup (.int .i64 c :: vs)) : ToldL Tryz.prog H v [] v [(7, none), (17, none), (18, none)] := by
 refine ⟨c, vs, vs, hv, hv, .rfl', fun x c' hx => ⟨c', ?_, .rfl'⟩⟩
 simp only [updF] at hx ⊢
 by_cases h18 : x = 18
 · rw [if_pos h18] at hx; cases hx
 · rw [if_neg h18] at hx
   by_cases h17 : x = 17
   · rw [if_pos h17] at hx; cases hx
   · rw [if_neg h17] at hx
     by_cases h7 : x = 7
     · rw [if_pos h7] at hx; cases hx
     · rw [if_neg h7] at hx; exact hx
theorem co_nz {b : Bool} {e : Nat} {l : List SV} (h : b = true → l = []) : CoV Tryz.prog (nz b e l) (.psl e l) := by
 cases b with
 | true => rw [h rfl]; exact .nils
 | false => exact .rfl'
theorem co_zC {z : Dz} (h : nZ z = z) {x : Nat} : CoC Tryz.prog x (zC z) (dC false false false z.d) := by
 obtain ⟨h1, h2, h3⟩ := nZ_iff.1 h
 exact .cells (.cons .rfl' (.cons (co_nz h1) (.cons .rfl' (.cons .rfl' (.cons .rfl' (.cons .rfl' (.cons .rfl' (.cons .rfl' (.cons .rfl' (.cons (co_nz h2) (.cons (co_nz h3) .rfl')))))))))))
section
variable {N a n : Nat} {es : List SV} {at_ : Int} {kvs : List (Int × Bool)} {pb cb mb : Bool} {d : Ds} {v' : SV} {ups' : List (Nat × Option Chunk)}
variable (hm : mOk a n es kvs ⟨pb, cb, mb, d⟩) (hN : n - a + 1 < N + 1) (h : crun (mEnd (attK es n a at_ kvs ⟨pb, cb, mb, d⟩) n) = some (v', ups'))
theorem end_bad {er at' : Int} {s : List (Int × Bool)} {z : Dz} (he : (er == 0) = false) (h : crun (mEnd (er, at', s, z) n) = some (v', ups')) : v' = .tup [.int .i64 2, .ptr 0 0, .mp 17] ∧ ups' = [(0, some (.cells 37 [.int .i64 er, .int .i64 at'])), (7, none), (17, none), (18, none)] := by
 unfold mEnd at h
 rw [crun_ite] at h
 simp only [he, cond_false] at h
 cases h; exact ⟨rfl, rfl⟩
theorem bad_go {er at' : Int} {c : Chunk} {r : Rd} {K : CTree} (hN : 0 < N) : mBad N er at' c kvs r n es K = K := by
 unfold mBad
 rw [show Nat.blt 0 N = true by rw [Nat.blt_eq]; exact hN, dec_iff.2 rfl]; rfl
theorem go_go {b : Nat} {at' : Int} {z : Dz} {K : Int × Int × List (Int × Bool) × Dz → CTree} (hN : n - b + 1 < N) (hz : nZ z = z) (hm : mOk b n es kvs z) : mGo N at' z kvs (RD b n) n es K = K (attK es n b at' kvs z) := by
 unfold mGo
 rw [hz, show Nat.blt (n - (RD b n).at_.toNat + 1) N = true by rw [Nat.blt_eq]; exact hN, dec_iff.2 ⟨rfl, hm⟩]; rfl
theorem mK_goes {o : Int × Int × List (Int × Bool) × Dz} {H : HpL} (h : crun (mEnd o n) = some (v', ups')) : Goes H (mK o) v' ups' := by
 refine .inl ?_
 unfold mEnd at h
 rw [crun_ite] at h
 unfold mK
 cases ho : o.1 == 0 with
 | true => rw [ho] at h; cases h; exact ⟨_, rfl, p4a⟩
 | false => rw [ho] at h; cases h; exact ⟨_, rfl, p4a⟩
include hm hN h
theorem goes_cut (hlt : a < n) (ho : ¬ okN es a n) : Goes (mH 0 at_ (dC pb cb mb d) kvs (RD a n) n es) (mOnce N nc_s mArg (mH 0 at_ (dC pb cb mb d) kvs (RD a n) n es)) v' ups' := by
 obtain ⟨h1, h2, h3, h4, h5, h6, h7, h8⟩ := hm
 have hl : lfI (RD a n) = ((n - a : Nat) : Int) := by have := lfI_v (s := a) (t := n) (k := 0) (by omega) (by omega); simpa using this
 have hc : cdN es a n := ⟨hlt, h2, h3, h1.ok⟩
 rw [attK, attL_cut hlt ho] at h
 obtain ⟨rfl, rfl⟩ := end_bad (by decide) h
 have hrd := m_cut N at_ pb cb mb d kvs (RD a n) n es
 rw [hl, decide_eq_true (by omega), cond_true, dec_iff.2 ⟨rfl, hc, ho⟩, cond_true, bad_go (by omega)] at hrd
 rw [hrd]
 exact .inl ⟨_, rfl, p4a⟩
theorem goes_unk (hlt : a < n) (ho : okN es a n) (hk : knC (cdOf es a) = false) : Goes (mH 0 at_ (dC pb cb mb d) kvs (RD a n) n es) (loopOnce Tryz.prog κmu ιmu (ltab []) true 300 e9 { e9 with s := boundT mM m_s N } c9 mArg (mH 0 at_ (dC pb cb mb d) kvs (RD a n) n es)) v' ups' := by
 have hm0 := hm
 obtain ⟨h1, h2, h3, h4, h5, h6, h7, h8⟩ := hm
 have hl : lfI (RD a n) = ((n - a : Nat) : Int) := by have := lfI_v (s := a) (t := n) (k := 0) (by omega) (by omega); simpa using this
 have hc : cdN es a n := ⟨hlt, h2, h3, h1.ok⟩
 have hrd := m_unk N at_ pb cb mb d kvs (RD a n) n es
 rw [hl, decide_eq_true (by omega), cond_true, dec_iff.2 ⟨rfl, hc, ho, hk⟩, cond_true] at hrd
 simp only [show (RD a n).at_.toNat = a from rfl] at hrd
 rw [unkT_ok hk] at hrd
 have hE : vE es a ≤ n := ho.2
 have hE3 : a + 3 ≤ vE es a := by have := hdN_ge (es := es) (a := a); unfold vE; omega
 cases hf : andI .u8 (dg es a) 128 == 0 with
 | true =>
  rw [attK, attL_u17 hlt ho hk hf] at h
  obtain ⟨rfl, rfl⟩ := end_bad (by decide) h
  rw [hf, cond_true, bad_go (by omega)] at hrd
  rw [hrd]
  exact .inl ⟨_, rfl, p4a⟩
 | false =>
  rw [attK, attL_unk hlt ho hk hf] at h
  rw [hf, cond_false, go_go (by omega) h5 ⟨h1, h2, h3, hE, h5, h6, h7, h8⟩] at hrd
  rw [hrd]
  exact mK_goes h
theorem goes_kn {g : Int} {C : Prop} (hlt : a < n) (ho : okN es a n) (hg : cdOf es a = g) (hk : knC g = true) (hrd : mOnce N (nx_s g) mArg (mH 0 at_ (dC pb cb mb d) kvs (RD a n) n es) = mRd N g pb cb mb d kvs (RD a n) n es C)
  (hC : okV es n (vS es a) (vE es a) → dN pb cb mb d = d → lookB kvs g = false → C) : Goes (mH 0 at_ (dC pb cb mb d) kvs (RD a n) n es) (mOnce N (nx_s g) mArg (mH 0 at_ (dC pb cb mb d) kvs (RD a n) n es)) v' ups' := by
 have hm0 := hm
 obtain ⟨h1, h2, h3, h4, h5, h6, h7, h8⟩ := hm
 have hl : lfI (RD a n) = ((n - a : Nat) : Int) := by have := lfI_v (s := a) (t := n) (k := 0) (by omega) (by omega); simpa using this
 have hc : cdN es a n := ⟨hlt, h2, h3, h1.ok⟩
 have hE : vE es a ≤ n := ho.2
 have hE3 : a + 3 ≤ vE es a := by have := hdN_ge (es := es) (a := a); unfold vE; omega
 unfold mRd at hrd
 rw [hl, decide_eq_true (by omega), cond_true, dec_iff.2 ⟨rfl, hc, ho, hg⟩, cond_true] at hrd
 simp only [show (RD a n).at_.toNat = a from rfl] at hrd
 subst hg
 rw [hrd]
 clear hrd
 cases hf : fitC (cdOf es a) (dg es a) with
 | false =>
  rw [attK, attL_fit hlt ho hk hf] at h
  obtain ⟨rfl, rfl⟩ := end_bad (by decide) h
  rw [Bool.not_false, cond_true, bad_go (by omega)]
  exact .inl ⟨_, rfl, p4b⟩
 | true =>
  rw [Bool.not_true, cond_false]
  cases hlk : lookB kvs (cdOf es a) with
  | true =>
   rw [attK, attL_dbl hlt ho hk hf hlk] at h
   obtain ⟨rfl, rfl⟩ := end_bad (by decide) h
   rw [cond_true, bad_go (by omega)]
   exact .inl ⟨_, rfl, p4b⟩
  | false =>
   have hdn : dN pb cb mb d = d := by injection h5
   rw [cond_false, dec_iff.2 (hC ⟨h1, h2, h3, by unfold vS vE; omega, hE⟩ hdn hlk), cond_true]
   cases hv : okC (cdOf es a) (vl es (vS es a) (vE es a)) with
   | false =>
    rw [attK, attL_bad hlt ho hk hf hlk hv] at h
    obtain ⟨rfl, rfl⟩ := end_bad (by decide) h
    rw [cond_false, bad_go (by omega)]
    exact .inl ⟨_, rfl, p4a⟩
   | true =>
    rw [attK, attL_go hlt ho hk hf hlk hv] at h
    rw [cond_true, h5, go_go (by omega) (gC_nz hk _ h5) (mOk_next _ hk hm0 hE)]
    exact mK_goes h
end
end Go.Proofs.YtdgnhaacdpmclaaGreat
/- Attributes are read: the main loop is valid. -/
namespace Go.Proofs.YtdgnhaacdpmclaaGreat
open Go.Am
set_option maxRecDepth 100000
theorem m_valid : ValidL Tryz.prog e9 := loop_valid3 (T := ltab []) (sp := true) (fuel := 300) (c := c9) (μ := mM) mixTry ltab_nil (show fillC (ltab []) c9 = c9 by kernel_rfl) (by
 intro N args H v' ups' hbt h
 unfold e9 m_s at h
 simp only [] at h
 split at h
 · rename_i er at_ x1 x2 x3 x4 x5 x6 cs x8 x9 x10 x11 x12 x13 x14 x15 x16 kd kvs a e n re rf x18 es
   split at h
   · rename_i pb cb mb d hd
     rw [crun_ite] at h
     cases her : (er == 0) with
     | false =>
      rw [her, cond_false, crun_ite] at h
      cases hc : dec _ with
      | false => rw [hc] at h; cases h
      | true =>
       rw [hc, cond_true] at h
       have hH := dec_iff.1 hc
       rw [hH]
       have hx := m_x1 N er at_ pb cb mb d kvs ⟨a, e, re, rf⟩ n es
       rw [her, cond_false, cond_false] at hx
       cases h
       exact ⟨κma no_s, ιma, mOkT no_k, .inr (.inr ⟨_, _, congrArg crun hx, told_drop rfl⟩)⟩
     | true =>
      have he0 : er = 0 := by simpa using her
      subst he0
      rw [her, cond_true, crun_ite] at h
      cases hc : dec _ with
      | false => rw [hc] at h; cases h
      | true =>
       rw [hc, cond_true] at h
       obtain ⟨hH, hm⟩ := dec_iff.1 hc
       rw [hH] at hbt ⊢
       have hN : n - a.toNat + 1 < N + 1 := by
        have : Nat.blt (n - a.toNat + 1) (N + 1) = true := hbt
        rwa [Nat.blt_eq] at this
       generalize a.toNat = b at *
       by_cases hlt : b < n
       · by_cases ho : okN es b n
         · cases hk : knC (cdOf es b) with
           | false => exact ⟨κmu, ιmu, muOkT, goes_unk hm hN h hlt ho hk⟩
           | true =>
            refine ⟨κma (nx_s (cdOf es b)), ιma, mOkT (nx_k _), ?_⟩
            obtain ⟨p1, p2, p3, p4, p5, p6, p7, p8⟩ := hm
            have hm : mOk b n es kvs ⟨pb, cb, mb, d⟩ := ⟨p1, p2, p3, p4, p5, p6, p7, p8⟩
            rcases knC_of hk with hg | hg | hg | hg | hg | hg | hg | hg | hg | hg
            · rw [hg]; exact goes_kn hm hN h hlt ho hg rfl (m_1 N at_ pb cb mb d kvs (RD b n) n es) (fun q1 q2 q3 => ⟨by rw [q2], q1, .inl rfl⟩)
            · rw [hg]; exact goes_kn hm hN h hlt ho hg rfl (m_2 N at_ pb cb mb d kvs (RD b n) n es) (fun q1 q2 q3 => ⟨by rw [q2], q1, p6 q3⟩)
            · rw [hg]; exact goes_kn hm hN h hlt ho hg rfl (m_4 N at_ pb cb mb d kvs (RD b n) n es) (fun q1 q2 q3 => ⟨by rw [q2], q1, .inr (.inl rfl)⟩)
            · rw [hg]; exact goes_kn hm hN h hlt ho hg rfl (m_5 N at_ pb cb mb d kvs (RD b n) n es) (fun q1 q2 q3 => ⟨by rw [q2], q1, .inr (.inr (.inl rfl))⟩)
            · rw [hg]; exact goes_kn hm hN h hlt ho hg rfl (m_9 N at_ pb cb mb d kvs (RD b n) n es) (fun q1 q2 q3 => ⟨by rw [q2], q1, .inr (.inr (.inr rfl))⟩)
            · rw [hg]; exact goes_kn hm hN h hlt ho hg rfl (m_10 N at_ pb cb mb d kvs (RD b n) n es) (fun q1 q2 q3 => ⟨by rw [q2], q1, p7 q3⟩)
            · rw [hg]; exact goes_kn hm hN h hlt ho hg rfl (m_14 N at_ pb cb mb d kvs (RD b n) n es) (fun q1 q2 q3 => ⟨by rw [q2], q1, rfl⟩)
            · rw [hg]; exact goes_kn hm hN h hlt ho hg rfl (m_15 N at_ pb cb mb d kvs (RD b n) n es) (fun q1 q2 q3 => ⟨by rw [q2], q1, rfl⟩)
            · rw [hg]; exact goes_kn hm hN h hlt ho hg rfl (m_16 N at_ pb cb mb d kvs (RD b n) n es) (fun q1 q2 q3 => ⟨by rw [q2], q1, p8 q3⟩)
            · rw [hg]; exact goes_kn hm hN h hlt ho hg rfl (m_22 N at_ pb cb mb d kvs (RD b n) n es) (fun q1 q2 q3 => ⟨by rw [q2], q1, rfl⟩)
         · exact ⟨κma nc_s, ιma, mOkT nc_k, goes_cut hm hN h hlt ho⟩
       · obtain ⟨p1, p2, p3, p4, p5, p6, p7, p8⟩ := hm
         have hbn : b = n := by omega
         subst hbn
         have hl : lfI (RD b b) = 0 := by have := lfI_v (s := b) (t := b) (k := 0) (by omega) (by omega); simpa using this
         have hx := m_x1 N 0 at_ pb cb mb d kvs (RD b b) b es
         rw [hl] at hx
         rw [attK, attL_end hlt] at h
         unfold mEnd at h
         rw [crun_ite] at h
         cases h
         refine ⟨κma no_s, ιma, mOkT no_k, .inr (.inr ⟨_, _, congrArg crun hx, 2, _, _, rfl, rfl, .rfl', fun x c' hx => ?_⟩)⟩
         simp only [updF] at hx
         by_cases h18 : x = 18
         · rw [if_pos h18] at hx; cases hx
         · rw [if_neg h18] at hx
           by_cases h17 : x = 17
           · subst h17; rw [if_pos rfl] at hx; cases hx; exact ⟨_, rfl, .rfl'⟩
           · rw [if_neg h17] at hx
             by_cases h7 : x = 7
             · subst h7; rw [if_pos rfl] at hx; cases hx; exact ⟨_, rfl, co_zC p5⟩
             · rw [if_neg h7] at hx
               by_cases h0 : x = 0
               · subst h0; rw [if_pos rfl] at hx; cases hx; exact ⟨_, rfl, .rfl'⟩
               · rw [if_neg h0] at hx; exact ⟨c', hx, .rfl'⟩
   · rw [crun_ite] at h
     cases her : (er == 0) with
     | true => rw [her] at h; cases h
     | false =>
      rw [her, cond_false, crun_ite] at h
      cases hc : dec _ with
      | false => rw [hc] at h; cases h
      | true =>
       rw [hc, cond_true] at h
       have hH := dec_iff.1 hc
       rw [hH]
       have hx := m_x2 N er at_ kvs ⟨a, e, re, rf⟩ n es
       rw [her, cond_false, cond_false] at hx
       cases h
       exact ⟨κma no_s, ιma, mOkT no_k, .inr (.inr ⟨_, _, congrArg crun hx, told_drop rfl⟩)⟩
 · cases h)
end Go.Proofs.YtdgnhaacdpmclaaGreat
/- Attributes are read: attr.Read. -/
namespace Go.Proofs.YtdgnhaacdpmclaaGreat
open Go.Am
set_option maxRecDepth 100000
def dI0 : Ds := ⟨0, 0, 0, 0, 0, 0, 0, 0, 0, false, false, false, [], [], [], [], []⟩
def zI : Dz := ⟨true, true, true, dI0⟩
def dI : Chunk := .cells 63 [.int .i64 0, .nils, .int .u32 0, .bool false, .int .u32 0, .bool false, .int .u32 0, .bool false, .int .u32 0, .nils, .nils, .int .i64 0, .int .u32 0, .int .u32 0, .int .u32 0, .nils, .nils]
noncomputable def mi_s : CSumm := fun args H => match args, H with
 | [.ptr 0 0, .ptr 1 0, .mp 2, .mp 17, .ptr 18 0], [_, _, _, _, _, _, _, _, _, _, _, _, _, _, _, _, _, _, (18, .cells 121 [.int .i64 _, .int .i64 _, .qs 19 1 0 n, _, _, _]), (19, .seq 5 es)] =>
  .ite (dec (H = mH 0 0 dI [] (RD 0 n) n es ∧ byl es ∧ n = es.length ∧ n ≤ 1000000)) (mEnd (attK es n 0 0 [] zI) n) .fail
 | _, _ => .fail
theorem mOk0 {n : Nat} {es : List SV} (h1 : byl es) (h2 : n = es.length) (h3 : n ≤ 1000000) : mOk 0 n es [] zI := ⟨h1, h2, h3, Nat.zero_le _, rfl, fun _ => rfl, fun _ => rfl, fun _ => rfl⟩
theorem m_start {n : Nat} {es : List SV} (h1 : byl es) (h2 : n = es.length) (h3 : n ≤ 1000000) : crun (m_s mArg (mH 0 0 (zC zI) [] (RD 0 n) n es)) = crun (mEnd (attK es n 0 0 [] zI) n) := by
 show crun (.ite (0 == 0) (.ite (dec (mH 0 0 (zC zI) [] (RD 0 n) n es = mH 0 0 (zC zI) [] (RD 0 n) n es ∧ mOk 0 n es [] zI)) (mEnd (attK es n 0 0 [] zI) n) .fail) _) = _
 rw [crun_ite, show ((0 : Int) == 0) = true from rfl, cond_true, crun_ite, dec_iff.2 ⟨rfl, mOk0 h1 h2 h3⟩, cond_true]
theorem mH_get {er at_ : Int} {c : Chunk} {kvs : List (Int × Bool)} {r : Rd} {n : Nat} {es : List SV} {x : Nat} (h : x ≠ 7) (c' : Chunk) : (mH er at_ c kvs r n es).get x = (mH er at_ c' kvs r n es).get x := by
 simp only [mH, HpL.get]
 rw [show Nat.beq 7 x = false from nb_f (fun e => h e.symm)]
 rfl
theorem canon_mH {er at_ : Int} {c : Chunk} {kvs : List (Int × Bool)} {r : Rd} {n : Nat} {es : List SV} : Canon (mH er at_ c kvs r n es) := fun i p h => by
 have := canonB_spec (mH er at_ c kvs r n es) 0 rfl i p h
 omega
theorem mi_valid : ValidL Tryz.prog { e9 with s := mi_s } := loop_from m_valid (by
 intro args H v ups h hcan
 unfold mi_s at h
 split at h
 · rename_i y0 y1 y2 y3 y4 y5 y6 y7 y8 y9 y10 y11 y12 y13 y14 y15 y16 y17 q1 q2 n q3 q4 q5 es
   rw [crun_ite] at h
   cases hc : dec _ with
   | false => rw [hc] at h; cases h
   | true =>
    rw [hc, cond_true] at h
    obtain ⟨hH, h1, h2, h3⟩ := dec_iff.1 hc
    rw [hH] at hcan ⊢
    refine ⟨mArg, mH 0 0 (zC zI) [] (RD 0 n) n es, ups, (m_start h1 h2 h3).trans h, ⟨.rfl', canon_mH, rfl, fun x c hx => ?_, fun x c2 hx => ?_⟩, fun x => ?_⟩
    · by_cases h7 : x = 7
      · subst h7; cases hx
        exact ⟨_, rfl, .cells (.cons .rfl' (.cons .rfl' (.cons .rfl' (.cons .rfl' (.cons .rfl' (.cons .rfl' (.cons .rfl' (.cons .rfl' (.cons .rfl' (.cons .rfl' (.cons .rfl' (.cons .rfl' (.cons .rfl' (.cons .rfl' (.cons .rfl' (.cons .nils (.cons .nils .rfl')))))))))))))))))⟩
      · exact ⟨c, by rw [mH_get h7 dI]; exact hx, .rfl'⟩
    · by_cases h7 : x = 7
      · subst h7; exact ⟨_, rfl⟩
      · exact ⟨c2, by rw [mH_get h7 (zC zI)]; exact hx⟩
    · have h7 : ∀ (f g : HpF), (∀ y, y ≠ 7 → f y = g y) → updF ups f x = updF ups g x := by
        intro f g hfg
        unfold mEnd at h
        rw [crun_ite] at h
        cases ho : (attK es n 0 0 [] zI).1 == 0 with
        | true =>
         rw [ho] at h; cases h
         simp only [updF]
         by_cases x7 : x = 7
         · subst x7; rfl
         · rw [hfg x x7]
        | false =>
         rw [ho] at h; cases h
         simp only [updF]
         by_cases x7 : x = 7
         · subst x7; rfl
         · rw [hfg x x7]
      exact h7 _ _ (fun y hy => mH_get hy _)
 · cases h)
noncomputable abbrev T9 : LTab := ltab [("m", { e9 with s := mi_s })]
noncomputable abbrev m9 : Code := markC [(4, "m")] body9
noncomputable abbrev κr9 := openT Tryz.prog (tbl [(22, nr_s)]) 300 5
noncomputable abbrev ιr9 : Nat → Bool := fun g => inl (tbl [(22, nr_s)]) g && hasBody Tryz.prog g
noncomputable def rd_b : CSumm := bodyCL Tryz.prog κr9 ιr9 T9 true 300 Tryz.f9 m9
theorem rd_k0 : Known Tryz.prog 9 rd_b := ⟨⟨Tryz.f9, Tryz.func9, noNum_at noNumTry Tryz.func9, rfl⟩, bodyL_valid (openT_ok noNumTry mixTry (tbl_cons nr_k ok0) 300 5) mixTry (ltab_cons mi_valid ltab_nil) Tryz.func9 (show Tryz.f9.body = some (fillC T9 m9) by kernel_rfl)⟩
def aI : SV := .agg [.int .i64 0, .nils, .int .u32 0, .bool false, .int .u32 0, .bool false, .int .u32 0, .bool false, .int .u32 0, .nils, .nils, .int .i64 0, .int .u32 0, .int .u32 0, .int .u32 0]
def aD (d : Ds) : SV := .agg [.int .i64 d.ori, .psl 26 d.path, .int .u32 d.nx, .bool d.hm, .int .u32 d.med, .bool d.hp, .int .u32 d.prf, .bool d.ho, .int .u32 d.orr, .psl 27 d.cl, .psl 91 d.cm, .int .i64 d.tk, .int .u32 d.tl, .int .u32 d.tr, .int .u32 d.tg]
def fltR (e a : Int) : CTree := .ret (.tup [aI, .nils, .nils, .agg [.int .i64 e, .int .i64 a]]) []
noncomputable def rdK (o : Int × Int × List (Int × Bool) × Dz) (n : Nat) : CTree :=
 bif o.1 == 0 then bif (bif lookB o.2.2.1 14 then !(bif lookB o.2.2.1 1 then lookB o.2.2.1 2 else false) else false) then fltR 17 n
  else bif !(lookB o.2.2.1 14) then .ret (.tup [aI, .nils, .psl 49 o.2.2.2.d.unr, .agg [.int .i64 0, .int .i64 0]]) []
  else .ret (.tup [aD o.2.2.2.d, .psl 49 o.2.2.2.d.rch, .psl 49 o.2.2.2.d.unr, .agg [.int .i64 0, .int .i64 0]]) []
 else bif o.1 == 0 then .fail else bif o.1 != 0 then fltR o.1 o.2.1 else .fail
theorem rd_t (n : Nat) (es : List SV) : rd_b [.qs 0 1 0 n] [(0, .seq 5 es)] =
 bif decide (0 + n ≤ es.length ∧ n ≤ 1000000) then bif dec (mH 0 0 dI [] (RD 0 n) n (sl es 0 n) = mH 0 0 dI [] (RD 0 n) n (sl es 0 n) ∧ byl (sl es 0 n) ∧ n = (sl es 0 n).length ∧ n ≤ 1000000) then rdK (attK (sl es 0 n) n 0 0 [] zI) n else .fail else .fail := by kernel_rfl
noncomputable def rdO {σ : Type} (lk : σ → Int → Bool) (o : Int × Int × σ × Dz) (n : Nat) : Int × Int × Ds :=
 bif o.1 == 0 then bif lk o.2.2.1 14 then bif (bif lk o.2.2.1 1 then lk o.2.2.1 2 else false) then (0, 0, o.2.2.2.d) else (17, n, dI0)
  else (0, 0, { dI0 with unr := o.2.2.2.d.unr })
 else (o.1, o.2.1, dI0)
noncomputable abbrev rdQ (es : List SV) (n : Nat) : Int × Int × Ds := rdO lookB (attK es n 0 0 [] zI) n
def rdV (q : Int × Int × Ds) : SV := .tup [aD q.2.2, .psl 49 q.2.2.rch, .psl 49 q.2.2.unr, .agg [.int .i64 q.1, .int .i64 q.2.1]]
noncomputable def aread_s : CSumm := fun args H => match args, H with
 | [.qs 0 1 0 n], [(0, .seq 5 es)] => .ite (dec (byl es ∧ n = es.length ∧ n ≤ 1000000)) (.ret (rdV (rdQ es n)) []) .fail
 | _, _ => .fail
theorem co_aI : CoV Tryz.prog aI (aD dI0) := .agg (.cons .rfl' (.cons .nils (.cons .rfl' (.cons .rfl' (.cons .rfl' (.cons .rfl' (.cons .rfl' (.cons .rfl' (.cons .rfl' (.cons .nils (.cons .nils .rfl')))))))))))
theorem aread_k : Known Tryz.prog 9 aread_s := known_told rd_k0 (by
 intro args H v' ups' h
 unfold aread_s at h
 split at h
 · rename_i n es
   rw [crun_ite] at h
   cases hc : dec (byl es ∧ n = es.length ∧ n ≤ 1000000) with
   | false => rw [hc] at h; cases h
   | true =>
    rw [hc, cond_true] at h
    obtain ⟨h1, h2, h3⟩ := dec_iff.1 hc
    subst h2
    have ht := rd_t es.length es
    rw [sl_all, decide_eq_true (show 0 + es.length ≤ es.length ∧ es.length ≤ 1000000 by omega), cond_true, dec_iff.2 ⟨rfl, h1, rfl, h3⟩, cond_true] at ht
    unfold rdQ at h
    generalize attK es es.length 0 0 [] zI = o at *
    have same : ∀ {x : Nat} {c' : Chunk}, updF [] (HpL.get [(0, Chunk.seq 5 es)]) x = some c' → ∃ c, updF [] (HpL.get [(0, Chunk.seq 5 es)]) x = some c ∧ CoC Tryz.prog x c c' := fun hx => ⟨_, hx, .rfl'⟩
    unfold rdK at ht
    unfold rdO at h
    cases h0 : o.1 == 0 with
    | true =>
     rw [h0, cond_true] at ht h
     cases h14 : lookB o.2.2.1 14 with
     | true =>
      rw [h14, cond_true, Bool.not_true, cond_false] at ht
      rw [h14, cond_true] at h
      cases h12 : (bif lookB o.2.2.1 1 then lookB o.2.2.1 2 else false) with
      | true =>
       rw [h12] at ht h; cases h
       exact ⟨_, _, congrArg crun ht, .inr ⟨.rfl', fun x c' hx => same hx⟩⟩
      | false =>
       rw [h12] at ht h; cases h
       exact ⟨_, _, congrArg crun ht, .inr ⟨.tup (.cons co_aI (.cons .nils (.cons .nils .rfl'))), fun x c' hx => same hx⟩⟩
     | false =>
      rw [h14] at ht h
      cases h
      exact ⟨_, _, congrArg crun ht, .inr ⟨.tup (.cons co_aI (.cons .nils .rfl')), fun x c' hx => same hx⟩⟩
    | false =>
     rw [h0] at ht h
     rw [cond_false, cond_false, show (o.1 != 0) = true by unfold bne; rw [h0]; rfl] at ht
     cases h
     exact ⟨_, _, congrArg crun ht, .inr ⟨.tup (.cons co_aI (.cons .nils (.cons .nils .rfl'))), fun x c' hx => same hx⟩⟩
 · cases h)
end Go.Proofs.YtdgnhaacdpmclaaGreat
