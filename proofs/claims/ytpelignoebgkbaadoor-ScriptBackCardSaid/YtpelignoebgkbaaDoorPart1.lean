/- Scripts: the library's numerals: the program's functions are those that the contracts were proved of. -/
import Derived.Shelf.Strconv.Itoa3
import Derived.KernelRfl
import Derived.Test.YtpelignoebgkbaaDoorRows
import Derived.Lib.Walk
import Derived.Lib.ItoaMem
import Derived.Lib.AppendIntMem
import Derived.WalkKit
import Derived.BigCall
import Derived.BigGuard
import Derived.Test.YtpelignoebgkbaaDoorMachine6
import Derived.Test.YtpelignoebgkbaaDoorMachine7
import Derived.Test.YtpelignoebgkbaaDoorMachine8
set_option linter.unusedVariables false
set_option linter.unusedSimpArgs false
namespace Go.Proofs.YtpelignoebgkbaaDoor
set_option maxRecDepth 100000
def Tryd.lays171_ren : Go.Shelf.Ren := ⟨fun | 171 => 24 | 243 => 44 | 246 => 60 | 283 => 63 | 284 => 64 | 285 => 65 | 286 => 66 | 129 => 88 | 317 => 87 | 318 => 89 | 319 => 90 | 320 => 91 | 337 => 99 | 338 => 100 | n => n, fun | 3 => 3 | 9 => 9 | 2 => 2 | 4 => 4 | 171 => 128 | 0 => 0 | 53 => 33 | 37 => 91 | 5 => 5 | 173 => 131 | 212 => 142 | 51 => 35 | 20 => 20 | 213 => 143 | 46 => 94 | 232 => 163 | 233 => 164 | n => n, fun | 17 => 1 | 18 => 4 | 19 => 5 | n => n⟩
theorem Tryd.lays171 : Go.Proofs.LaysM.n171 Tryd.prog Tryd.lays171_ren := {
 mixed := by kernel_rfl
 f129 := Tryd.func88.trans (congrArg some (by kernel_rfl))
 f171 := Tryd.func24.trans (congrArg some (by kernel_rfl))
 f243 := Tryd.func44.trans (congrArg some (by kernel_rfl))
 f246 := Tryd.func60.trans (congrArg some (by kernel_rfl))
 f283 := Tryd.func63.trans (congrArg some (by kernel_rfl))
 f284 := Tryd.func64.trans (congrArg some (by kernel_rfl))
 f285 := Tryd.func65.trans (congrArg some (by kernel_rfl))
 f286 := Tryd.func66.trans (congrArg some (by kernel_rfl))
 f317 := Tryd.func87.trans (congrArg some (by kernel_rfl))
 f318 := Tryd.func89.trans (congrArg some (by kernel_rfl))
 f319 := Tryd.func90.trans (congrArg some (by kernel_rfl))
 f320 := Tryd.func91.trans (congrArg some (by kernel_rfl))
 f337 := Tryd.func99.trans (congrArg some (by kernel_rfl))
 f338 := Tryd.func100.trans (congrArg some (by kernel_rfl))
 t0 := Tryd.underlying0
 a0 := Tryd.isAgg0
 z0 := Tryd.sizeOf0
 v0 := Tryd.zeroValue0
 t2 := Tryd.underlying2
 a2 := Tryd.isAgg2
 z2 := Tryd.sizeOf2
 v2 := Tryd.zeroValue2
 t3 := Tryd.underlying3
 a3 := Tryd.isAgg3
 z3 := Tryd.sizeOf3
 v3 := Tryd.zeroValue3
 t4 := Tryd.underlying4
 a4 := Tryd.isAgg4
 z4 := Tryd.sizeOf4
 v4 := Tryd.zeroValue4
 t5 := Tryd.underlying5
 a5 := Tryd.isAgg5
 z5 := Tryd.sizeOf5
 v5 := Tryd.zeroValue5
 t9 := Tryd.underlying9
 a9 := Tryd.isAgg9
 z9 := Tryd.sizeOf9
 v9 := Tryd.zeroValue9
 t20 := Tryd.underlying20
 a20 := Tryd.isAgg20
 z20 := Tryd.sizeOf20
 v20 := Tryd.zeroValue20
 t37 := Tryd.underlying91
 a37 := Tryd.isAgg91
 z37 := Tryd.sizeOf91
 v37 := Tryd.zeroValue91
 t46 := Tryd.underlying94
 a46 := Tryd.isAgg94
 z46 := Tryd.sizeOf94
 v46 := Tryd.zeroValue94
 t51 := Tryd.underlying35
 a51 := Tryd.isAgg35
 z51 := Tryd.sizeOf35
 v51 := Tryd.zeroValue35
 t53 := Tryd.underlying33
 a53 := Tryd.isAgg33
 z53 := Tryd.sizeOf33
 v53 := Tryd.zeroValue33
 t171 := Tryd.underlying128
 a171 := Tryd.isAgg128
 z171 := Tryd.sizeOf128
 v171 := Tryd.zeroValue128
 t173 := Tryd.underlying131
 a173 := Tryd.isAgg131
 z173 := Tryd.sizeOf131
 v173 := Tryd.zeroValue131
 t212 := Tryd.underlying142
 a212 := Tryd.isAgg142
 z212 := Tryd.sizeOf142
 v212 := Tryd.zeroValue142
 t213 := Tryd.underlying143
 a213 := Tryd.isAgg143
 z213 := Tryd.sizeOf143
 t232 := Tryd.underlying163
 a232 := Tryd.isAgg163
 z232 := Tryd.sizeOf163
 v232 := Tryd.zeroValue163
 t233 := Tryd.underlying164
 a233 := Tryd.isAgg164
 z233 := Tryd.sizeOf164
 v233 := Tryd.zeroValue164
 g17 := by kernel_rfl
 g18 := by kernel_rfl
 g19 := by kernel_rfl
 i0 := by kernel_rfl
 i2 := by kernel_rfl
 i3 := by kernel_rfl
 i4 := by kernel_rfl
 i5 := by kernel_rfl
 i9 := by kernel_rfl
 i20 := by kernel_rfl
 i37 := by kernel_rfl
 i46 := by kernel_rfl
 i51 := by kernel_rfl
 i53 := by kernel_rfl
 i171 := by kernel_rfl
 i173 := by kernel_rfl
 i212 := by kernel_rfl
 i232 := by kernel_rfl
 i233 := by kernel_rfl
 m17 := by kernel_rfl
 m18 := by kernel_rfl
 m19 := by kernel_rfl }
end Go.Proofs.YtpelignoebgkbaaDoor
/- Scripts: decimal numerals of any unsigned number, as the library writes them. -/
namespace Go.Proofs.YtpelignoebgkbaaDoor
open Go.Shelf Go.RowKit Go.Sort Go.Lib
set_option maxRecDepth 100000
theorem small63 (i : Nat) (hi : i < 100) (w : World) : Calls Tryd.prog 63 #[.int .i64 i] w fun e w' => e = .returned (.string ⟨(Lib.decDigits i).toArray⟩) ∧ w' = w :=
 Any.internal_strconv_small { Tryd.lays171 with } i hi w
theorem numd64 (u : Nat) (h1 : 1 ≤ u) (h2 : u < 18446744073709551616) (w : World) (htab : Lib.TabIs Tryd.prog w "internal/strconv.uint64pow10" .u64 Lib.pow10Tab) :
  Calls Tryd.prog 64 #[.int .u64 u] w fun e w' => e = .returned (.int .i64 (Lib.nDigits u)) ∧ w' = w :=
 Any.internal_strconv_numDigits { Tryd.lays171 with } u h1 h2 w htab
theorem fmt65 (blk off cap : Nat) (u : Nat) (d : Array UInt8) (w : World) (hH : Holds (fun (b : UInt8) => Value.int .u8 (b.toNat : Int)) w blk off d) (hu : u < 10 ^ d.size) (hu64 : u < 18446744073709551616) (hsz : d.size < 4611686018427387904) :
  Calls Tryd.prog 65 #[.slice (some ⟨blk, off, none⟩) d.size cap, .int .u64 u] w fun e w' =>
   e = .returned (.tuple #[]) ∧ ∃ (n v' : Nat) (dk : Array UInt8), w' = (putRow (fun (b : UInt8) => Value.int .u8 (b.toNat : Int)) w blk off dk).drewN n ∧ FmtInv d.size u 0 v' dk :=
 Any.internal_strconv_formatBase10 { Tryd.lays171 with } blk off cap u d w hH hu hu64 hsz
set_option maxHeartbeats 6400000 in
theorem formatUint47 (u : Nat) (hu64 : u < 18446744073709551616) (w : World) (htab : Lib.TabIs Tryd.prog w "internal/strconv.uint64pow10" .u64 Lib.pow10Tab) :
  Calls Tryd.prog 47 #[.int .u64 u, .int .i64 10] w fun e w' => e = .returned (.string ⟨(Lib.decDigits u).toArray⟩) ∧ ∃ k os, w' = grow (w.drewN k) os := by
 have mixed : Tryd.prog.follows .mixedOrders = true := by kernel_rfl
 have t3 := Tryd.underlying3; have a3 := Tryd.isAgg3; have z3 := Tryd.sizeOf3; have v3 := Tryd.zeroValue3
 have t9 := Tryd.underlying9; have a9 := Tryd.isAgg9; have z9 := Tryd.sizeOf9; have v9 := Tryd.zeroValue9
 have t2 := Tryd.underlying2; have a2 := Tryd.isAgg2; have z2 := Tryd.sizeOf2; have v2 := Tryd.zeroValue2
 have t4 := Tryd.underlying4; have a4 := Tryd.isAgg4; have z4 := Tryd.sizeOf4; have v4 := Tryd.zeroValue4
 have t0 := Tryd.underlying0; have a0 := Tryd.isAgg0; have z0 := Tryd.sizeOf0; have v0 := Tryd.zeroValue0
 have t171 := Tryd.underlying128; have a171 := Tryd.isAgg128; have z171 := Tryd.sizeOf128; have v171 := Tryd.zeroValue128
 have t53 := Tryd.underlying33; have a53 := Tryd.isAgg33; have z53 := Tryd.sizeOf33; have v53 := Tryd.zeroValue33
 have t37 := Tryd.underlying91; have a37 := Tryd.isAgg91; have z37 := Tryd.sizeOf91; have v37 := Tryd.zeroValue91
 have t5 := Tryd.underlying5; have a5 := Tryd.isAgg5; have z5 := Tryd.sizeOf5; have v5 := Tryd.zeroValue5
 have t173 := Tryd.underlying131; have a173 := Tryd.isAgg131; have z173 := Tryd.sizeOf131; have v173 := Tryd.zeroValue131
 have e63 : ∀ args w, (callFunc 63 args).run Tryd.prog w = .ok (.enter 63 args) w := enters_of Tryd.func63 (by kernel_rfl) rfl
 have e64 : ∀ args w, (callFunc 64 args).run Tryd.prog w = .ok (.enter 64 args) w := enters_of Tryd.func64 (by kernel_rfl) rfl
 have e65 : ∀ args w, (callFunc 65 args).run Tryd.prog w = .ok (.enter 65 args) w := enters_of Tryd.func65 (by kernel_rfl) rfl
 by_cases hs : u < 100
 · go_enter Tryd.func47, Tryd.ntmps47
   go_wp2_with (go_at_fn 63; refine (small63 u hs _).mono ?_; rintro e w' ⟨rfl, rfl⟩)
   go_ret
   exact ⟨rfl, 0, #[], by simp [World.drewN_zero]⟩
 · have hu1 : 1 ≤ u := by omega
   have hnd20 : Lib.nDigits u ≤ 20 := by have := Lib.numDigits_eq u hu1 hu64; split at this <;> omega
   have hal : Tryd.prog.arrayLen 128 = 24 := by simp [Program.arrayLen, t171]
   have hsl1 : ∀ W, (Instr.sliceAt 128 (.pointer (some ⟨w.heap.size, 0, none⟩)) none (some (.int .i64 (Lib.nDigits u : Int))) none).run Tryd.prog W = .ok (.slice (some ⟨w.heap.size, 0, none⟩) (Lib.nDigits u) 24) W := fun W => by
    rw [run_sliceAt_array_h W 128 ⟨w.heap.size, 0, none⟩ (by simp [Program.arrayLen, Program.elem, t171]) .i64 (Lib.nDigits u : Int) (by omega) (by rw [hal]; omega)]
    go_simp
   have hH0 := Lib.holds_zero0 w 128 (Lib.nDigits u) (by omega)
   have hfmt := fmt65 w.heap.size 0 24 u (Array.replicate (Lib.nDigits u) 0) (w.alloc (.cells Lib.zeros24 128)) hH0 (by rw [Array.size_replicate]; exact Lib.lt_pow_nDigits u) hu64 (by rw [Array.size_replicate]; omega)
   rw [Array.size_replicate] at hfmt
   have HH0 := Lib.hid hH0
   clear hH0 hal
   go_enter Tryd.func47, Tryd.ntmps47
   go_wp2_with (first
    | (go_at_fn 64; refine (numd64 u hu1 hu64 _ (Lib.tabIs_alloc htab _)).mono ?_; rintro e w' ⟨rfl, rfl⟩))
   go_at_fn 65
   refine hfmt.mono ?_
   rintro e w' ⟨rfl, k, v', dk, rfl, hF⟩
   have hcv : (convert 91 9 (.slice (some ⟨w.heap.size, 0, none⟩) (Lib.nDigits u) 24)).run Tryd.prog ((putRow (fun (b : UInt8) => Value.int .u8 (b.toNat : Int)) (w.alloc (.cells Lib.zeros24 128)) w.heap.size 0 dk).drewN k) = .ok (.string ⟨(Lib.decDigits u).toArray⟩) ((putRow (fun (b : UInt8) => Value.int .u8 (b.toNat : Int)) (w.alloc (.cells Lib.zeros24 128)) w.heap.size 0 dk).drewN k) := by
    have h := run_convert_bytes_back (P := Tryd.prog) ((putRow (fun (b : UInt8) => Value.int .u8 (b.toNat : Int)) (w.alloc (.cells Lib.zeros24 128)) w.heap.size 0 dk).drewN k) 91 9 5 ⟨w.heap.size, 0, none⟩ 24 (Lib.decDigits u) t37 t5 t9 (fun j hj => by
     rw [Lib.row_is_numeral hF j hj, Lib.add_plain, World.cell?_drewN]
     exact cell?_putRow (fun (b : UInt8) => Value.int .u8 (b.toNat : Int)) _ w.heap.size 0 _ dk HH0.out (by rw [hF.size, Array.size_replicate]) j (by rw [hF.size]; rw [Lib.decDigits_length] at hj; exact hj))
    rw [Lib.decDigits_length] at h
    exact h
   go_wp2
   go_ret
   obtain ⟨os, eo⟩ := Lib.fin_at w (.cells Lib.zeros24 128) dk k 0
   exact ⟨rfl, k, os, eo⟩
set_option maxHeartbeats 6400000 in
theorem formatUint29 (u : Nat) (hu64 : u < 18446744073709551616) (w : World) (htab : Lib.TabIs Tryd.prog w "internal/strconv.uint64pow10" .u64 Lib.pow10Tab) :
  Calls Tryd.prog 29 #[.int .u64 u, .int .i64 10] w fun e w' => e = .returned (.string ⟨(Lib.decDigits u).toArray⟩) ∧ ∃ k os, w' = grow (w.drewN k) os := by
 have mixed : Tryd.prog.follows .mixedOrders = true := by kernel_rfl
 have t3 := Tryd.underlying3; have a3 := Tryd.isAgg3; have z3 := Tryd.sizeOf3; have v3 := Tryd.zeroValue3
 have t9 := Tryd.underlying9; have a9 := Tryd.isAgg9; have z9 := Tryd.sizeOf9; have v9 := Tryd.zeroValue9
 have e47 : ∀ args w, (callFunc 47 args).run Tryd.prog w = .ok (.enter 47 args) w := enters_of Tryd.func47 (by kernel_rfl) rfl
 go_enter Tryd.func29, Tryd.ntmps29
 go_wp2_with (go_at_fn 47; refine (formatUint47 u hu64 _ htab).mono ?_; rintro e w' ⟨rfl, k, os, rfl⟩)
 go_ret
 exact ⟨rfl, k, os, rfl⟩
end Go.Proofs.YtpelignoebgkbaaDoor
/- Scripts: the program. -/
namespace Go.Proofs.YtpelignoebgkbaaDoor
open Go.Am
set_option maxRecDepth 100000
theorem noNumTry : noNum Tryd.prog := by unfold noNum; kernel_rfl
theorem mixTry : Tryd.prog.follows .mixedOrders = true := by kernel_rfl
theorem ok0 : KOk Tryd.prog (tbl []) := tbl_nil
noncomputable abbrev opn (T : Nat → Option CSumm) (fn : Func) : CSumm := bodyC Tryd.prog (openT Tryd.prog T 300 5) (fun g => inl T g && hasBody Tryd.prog g) true 300 fn
theorem openKnown {T : Nat → Option CSumm} (hT : KOk Tryd.prog T) {f : Nat} {fn : Func} (hf : Tryd.prog.funcs[f]? = some fn) (hb : fn.body.isNone = false) : Known Tryd.prog f (opn T fn) :=
 known_of_bodyC noNumTry mixTry (openT_ok noNumTry mixTry hT 300 5) hf hb (fun _ _ _ _ h => h)
theorem crun_ite (b : Bool) (x y : CTree) : crun (.ite b x y) = bif b then crun x else crun y := by cases b <;> rfl
theorem crun_cond (b : Bool) (x y : CTree) : crun (bif b then x else y) = bif b then crun x else crun y := by cases b <;> rfl
theorem w64_id {n : Int} (h1 : -9223372036854775808 ≤ n) (h2 : n ≤ 9223372036854775807) : IntKind.i64.wrap n = n := by
 simp [IntKind.wrap, IntKind.bits, IntKind.signed]; omega
theorem w8_id {n : Int} (h1 : 0 ≤ n) (h2 : n ≤ 255) : IntKind.u8.wrap n = n := by
 simp [IntKind.wrap, IntKind.bits, IntKind.signed]; omega
abbrev w64 (n : Int) : Int := IntKind.i64.wrap n
abbrev w8 (n : Int) : Int := IntKind.u8.wrap n
noncomputable def dec (p : Prop) : Bool := (Classical.propDecidable p).decide
theorem dec_iff {p : Prop} : dec p = true ↔ p := by unfold dec; exact @decide_eq_true_iff _ (Classical.propDecidable _)
theorem inB_ok {i : Int} {n : Nat} (h0 : 0 ≤ i) (h1 : i < n) : inB i n = true := by unfold inB; rw [decide_eq_true h0, decide_eq_true h1]; rfl
def noS : CSumm := fun _ _ => .fail
theorem no_k {f : Nat} {fn : Func} (hf : Tryd.prog.funcs[f]? = some fn) (hb : fn.body.isNone = false) : Known Tryd.prog f noS :=
 ⟨⟨fn, hf, noNum_at noNumTry hf, hb⟩, fun _ _ _ _ h => by cases h⟩
end Go.Proofs.YtpelignoebgkbaaDoor
/- Scripts: the chapter's examples, carried out. -/
namespace Go.Proofs.YtpelignoebgkbaaDoor
open Go.Am
set_option maxRecDepth 100000
def sq1 : Option Code → Code
 | some (.seq a _) => a
 | _ => .skip
def sq2 : Option Code → Code
 | some (.seq _ b) => b
 | _ => .skip
noncomputable def lnA : Code := sq1 Tryd.f15.body
noncomputable def lnD : Code := sq1 (some (sq2 Tryd.f15.body))
noncomputable def lnB : Code := sq2 (some (sq2 Tryd.f15.body))
noncomputable def lcR : Code := sq1 Tryd.f31.body
noncomputable def lcB : Code := sq2 Tryd.f31.body
def rgO (c : Code) (i : Nat) : Oper := match c with
 | .region _ ops _ => match ops[i]? with
  | some o => o
  | none => { dst := none, op := .alloc 0, type := 0, pos := "", after := #[], guard := none }
 | _ => { dst := none, op := .alloc 0, type := 0, pos := "", after := #[], guard := none }
def opC : Op → Call
 | .call c => c
 | .defer c => c
 | _ => { callee := .builtin .recover, args := #[], argTypes := #[] }
abbrev caps3 : List Operand := [.tmp 2, .tmp 3, .tmp 4]
theorem dfr15 : Dfr Tryd.prog Tryd.f15 lnA lnB 6 31 caps3 := ⟨1, rgO lnD 0, rgO lnD 1, opC (rgO lnD 1).op, by kernel_rfl, by kernel_rfl, by kernel_rfl, by kernel_rfl, by kernel_rfl, by kernel_rfl, by kernel_rfl, by kernel_rfl, by kernel_rfl⟩
theorem clo31 : Clo Tryd.prog 31 Tryd.f31 lcB 6 3 := ⟨Tryd.func31, by kernel_rfl, ⟨0, rgO lcR 0, rgO lcR 1, opC (rgO lcR 0).op, by kernel_rfl, by kernel_rfl, by kernel_rfl, by kernel_rfl, by kernel_rfl, by kernel_rfl, by kernel_rfl, by kernel_rfl, by kernel_rfl⟩, of_decide_eq_true (by kernel_rfl), of_decide_eq_true (by kernel_rfl), of_decide_eq_true (by kernel_rfl)⟩
noncomputable def lineC : CSumm := deferC Tryd.prog (closedS Tryd.prog 300 12) Tryd.f15 Tryd.f31 lnA lnB lcB 6 31 6 3 caps3
theorem lineC_k : Known Tryd.prog 15 lineC := ⟨⟨Tryd.f15, Tryd.func15, noNum_at noNumTry Tryd.func15, rfl⟩, defer_valid (closed_ok noNumTry mixTry 300 12) Tryd.func15 dfr15 clo31⟩
theorem lives_k : Known Tryd.prog 6 (constS (.bool true)) := known_closedT (fuel := 300) (n := 12) noNumTry mixTry (tbl_cons lineC_k ok0) Tryd.func6 rfl (by kernel_rfl)
end Go.Proofs.YtpelignoebgkbaaDoor
/- Scripts: what raises: 'fail'; the loops of 'number'. -/
namespace Go.Proofs.YtpelignoebgkbaaDoor
open Go.Am
set_option maxRecDepth 100000
def κe : Nat → Option CSumm := fun _ => none
theorem κeOk : KOk Tryd.prog κe := ⟨(fun _ _ h => by cases h), (fun _ _ h => by cases h)⟩
def flt (e a : Int) : SV := .iface 86 (.agg [.int .i64 e, .int .i64 a])
def fail_s : CSumm
 | [.int .i64 e, .int .i64 a], [] => .ret (.tup [.bool false, flt e a]) []
 | _, _ => .fail
theorem fail_t (e a : Int) : bodyX Tryd.prog κe (tbl []) (ltab []) 300 Tryd.f33 (Tryd.f33.body.getD .skip) [.int .i64 e, .int .i64 a] [] = .ret (.tup [.bool false, flt e a]) [] := by kernel_rfl
theorem fail_k : KnownX Tryd.prog 33 fail_s := knownX_of_body noNumTry mixTry κeOk xtbl_nil lokp_nil Tryd.func33 (show Tryd.f33.body = some (fillC (ltab []) (Tryd.f33.body.getD .skip)) by kernel_rfl) (fuel := 300) (by
 intro args H v ups h
 unfold fail_s at h
 split at h
 · exact (congrArg crun (fail_t _ _)).trans h
 · cases h)
noncomputable abbrev πF : Nat → Option CSumm := tbl [(33, fail_s)]
theorem πFok : XOk Tryd.prog πF := xtbl_cons fail_k xtbl_nil
noncomputable def body71 : Code := Tryd.f71.body.getD .skip
noncomputable def c71a : Code := (loopAt 4 body71).getD .skip
noncomputable def c71b : Code := (loopAt 11 body71).getD .skip
def notDig (c : SV) : Bool := bif decide (asI c < 48) then true else decide (asI c > 57)
def alldig : List SV → Bool
 | [] => true
 | c :: cs => bif notDig c then false else alldig cs
def naOk (es : List SV) (n : Nat) (m i : Int) : Prop := n = es.length ∧ m = es.length ∧ 0 ≤ i ∧ i ≤ es.length ∧ es.length < 4000000000
noncomputable def na_s : CSumm := fun args H => match args, H with
 | [.qs 0 1 0 n, .int .i64 m, .int .i64 i, .ptr 1 0], [(0, .seq 5 es), (1, .cells 116 [.str _, .int .i64 a])] => .ite (dec (naOk es n m i)) (.ite (alldig (es.drop i.toNat)) (.ret (.tup [.int .i64 2, .ptr 1 0, .junk]) [])
   (.ret (.tup [.int .i64 1000042, .ptr 1 0, flt 19 a]) [])) .fail
 | _, _ => .fail
def naM : List SV → HpL → Nat
 | [_, .int _ m, .int _ i, _], _ => (m - i).toNat
 | _, _ => 0
noncomputable def e71a : LEnt := { ins := [26, 27, 28, 2], outs := [2, 40], keep := [1], size := 68, code := c71a, s := na_s }
def naT : CTree := .ret (.tup [.int .i64 2, .ptr 1 0, .junk]) []
def naF (a : Int) : CTree := .ret (.tup [.int .i64 1000042, .ptr 1 0, flt 19 a]) []
noncomputable def naN (N : Nat) (es : List SV) (n : Nat) (m i a : Int) : CTree := bif Nat.blt (m - i).toNat N then bif dec (naOk es n m i) then bif alldig (es.drop i.toNat) then naT else naF a else .fail else .fail
theorem na_t (N : Nat) (es : List SV) (n : Nat) (m i a : Int) (s : List UInt8) : loopOnceP Tryd.prog κe πF [] (ltab []) 300 e71a { e71a with s := boundT naM na_s N } c71a [.qs 0 1 0 n, .int .i64 m, .int .i64 i, .ptr 1 0] [(0, .seq 5 es), (1, .cells 116 [.str s, .int .i64 a])] =
 bif decide (i < m) then bif inB i n then bif decide (0 + i.toNat < es.length) then
  bif decide (asI (es.getD (0 + i.toNat) .junk) < 48) then naF a else bif decide (asI (es.getD (0 + i.toNat) .junk) > 57) then naF a else naN N es n m (w64 (i + 1)) a
 else .fail else .fail else naT := by kernel_rfl
theorem getD_cons' {es : List SV} {k : Nat} (h : k < es.length) : es.drop k = es.getD k .junk :: es.drop (k + 1) := by
 rw [List.drop_eq_getElem_cons h]
 simp [List.getD_eq_getElem?_getD, h]
theorem na_valid : ValidLP Tryd.prog [] e71a := loopP_valid (T := ltab []) (fuel := 300) (c := c71a) (μ := naM) κeOk πFok mixTry lokp_nil (show fillC (ltab []) c71a = c71a by kernel_rfl) (by
 intro N args H r hbt h
 unfold e71a na_s at h
 simp only [] at h
 split at h
 · rename_i n m i es s a
   rw [crun_ite] at h
   cases hc : dec (naOk es n m i) with
   | false => rw [hc] at h; cases h
   | true =>
    rw [hc, cond_true, crun_ite] at h
    obtain ⟨rfl, rfl, i0, i1, hl⟩ := dec_iff.1 hc
    have hN : Nat.blt ((es.length : Int) - i).toNat (N + 1) = true := hbt
    rw [Nat.blt_eq] at hN
    have ht := na_t N es es.length es.length i a s
    obtain ⟨k, rfl⟩ := Int.eq_ofNat_of_zero_le i0
    have hk : ((k : Nat) : Int).toNat = k := rfl
    rw [hk] at h ht
    refine (congrArg crun ht).trans ?_
    by_cases hi : (k : Int) < es.length
    · have hkl : k < es.length := by omega
      rw [decide_eq_true hi, cond_true, inB_ok (by omega) (by omega), cond_true, Nat.zero_add, decide_eq_true hkl, cond_true, show w64 ((k : Int) + 1) = ((k + 1 : Nat) : Int) from (w64_id (by omega) (by omega)).trans (by omega)]
      rw [getD_cons' hkl, alldig] at h
      unfold notDig at h
      cases h1 : decide (asI (es.getD k .junk) < 48) with
      | true => rw [h1] at h; exact h
      | false =>
       rw [h1, cond_false] at h
       rw [cond_false]
       cases h2 : decide (asI (es.getD k .junk) > 57) with
       | true => rw [h2] at h; exact h
       | false =>
        rw [h2, cond_false] at h
        rw [cond_false]
        unfold naN
        rw [show Nat.blt ((es.length : Int) - ((k + 1 : Nat) : Int)).toNat N = true by rw [Nat.blt_eq]; omega, cond_true, dec_iff.2 ⟨rfl, rfl, by omega, by omega, hl⟩, cond_true, show ((k + 1 : Nat) : Int).toNat = k + 1 from rfl]
        rw [crun_cond]
        exact h
    · rw [decide_eq_false hi, cond_false]
      have : es.drop k = [] := List.drop_eq_nil_of_le (by omega)
      rw [this] at h
      exact h
 · cases h)
/- The second loop: the value; where it grows too great, what it was. -/
def accS (most : Int) : List SV → Int → Bool × Int
 | [], v => (true, v)
 | c :: cs, v => bif decide (v > (IntKind.u64.wrap ((IntKind.u64.wrap (most - (IntKind.u64.wrap (w8 (asI c - 48))))).tdiv 10))) then (false, v) else accS most cs (IntKind.u64.wrap (IntKind.u64.wrap (v * 10) + IntKind.u64.wrap (w8 (asI c - 48))))
def nbT (v : Int) : CTree := .ret (.tup [.int .i64 4, .int .u64 v, .junk]) []
def nbF (v a : Int) : CTree := .ret (.tup [.int .i64 1000063, .int .u64 v, flt 2 a]) []
noncomputable def nb_s : CSumm := fun args H => match args, H with
 | [.qs 0 1 0 n, .int .i64 m, .int .i64 i, .int .u64 v, .int .u64 most, .ptr 1 0], [(0, .seq 5 es), (1, .cells 116 [.str _, .int .i64 a])] => .ite (dec (naOk es n m i)) (.ite (accS most (es.drop i.toNat) v).1 (nbT (accS most (es.drop i.toNat) v).2) (nbF (accS most (es.drop i.toNat) v).2 a)) .fail
 | _, _ => .fail
def nbM : List SV → HpL → Nat
 | _ :: .int _ m :: .int _ i :: _, _ => (m - i).toNat
 | _, _ => 0
noncomputable def e71b : LEnt := { ins := [44, 45, 46, 7, 1, 2], outs := [7, 61], keep := [], size := 68, code := c71b, s := nb_s }
noncomputable def nbN (N : Nat) (es : List SV) (n : Nat) (m i v most a : Int) : CTree := bif Nat.blt (m - i).toNat N then bif dec (naOk es n m i) then bif (accS most (es.drop i.toNat) v).1 then nbT (accS most (es.drop i.toNat) v).2 else nbF (accS most (es.drop i.toNat) v).2 a else .fail else .fail
theorem nb_t (N : Nat) (es : List SV) (n : Nat) (m i v most a : Int) (s : List UInt8) : loopOnceP Tryd.prog κe πF [] (ltab []) 300 e71b { e71b with s := boundT nbM nb_s N } c71b [.qs 0 1 0 n, .int .i64 m, .int .i64 i, .int .u64 v, .int .u64 most, .ptr 1 0] [(0, .seq 5 es), (1, .cells 116 [.str s, .int .i64 a])] =
 bif decide (i < m) then bif inB i n then bif decide (0 + i.toNat < es.length) then
  bif decide (v > (IntKind.u64.wrap ((IntKind.u64.wrap (most - (IntKind.u64.wrap (w8 (asI (es.getD (0 + i.toNat) .junk) - 48))))).tdiv 10))) then nbF v a else nbN N es n m (w64 (i + 1)) (IntKind.u64.wrap (IntKind.u64.wrap (v * 10) + IntKind.u64.wrap (w8 (asI (es.getD (0 + i.toNat) .junk) - 48)))) most a
 else .fail else .fail else nbT v := by kernel_rfl
theorem nb_valid : ValidLP Tryd.prog [] e71b := loopP_valid (T := ltab []) (fuel := 300) (c := c71b) (μ := nbM) κeOk πFok mixTry lokp_nil (show fillC (ltab []) c71b = c71b by kernel_rfl) (by
 intro N args H r hbt h
 unfold e71b nb_s at h
 simp only [] at h
 split at h
 · rename_i n m i v most es s a
   rw [crun_ite] at h
   cases hc : dec (naOk es n m i) with
   | false => rw [hc] at h; cases h
   | true =>
    rw [hc, cond_true, crun_ite] at h
    obtain ⟨rfl, rfl, i0, i1, hl⟩ := dec_iff.1 hc
    have hN : Nat.blt ((es.length : Int) - i).toNat (N + 1) = true := hbt
    rw [Nat.blt_eq] at hN
    have ht := nb_t N es es.length es.length i v most a s
    obtain ⟨k, rfl⟩ := Int.eq_ofNat_of_zero_le i0
    have hk : ((k : Nat) : Int).toNat = k := rfl
    rw [hk] at h ht
    refine (congrArg crun ht).trans ?_
    by_cases hi : (k : Int) < es.length
    · have hkl : k < es.length := by omega
      rw [decide_eq_true hi, cond_true, inB_ok (by omega) (by omega), cond_true, Nat.zero_add, decide_eq_true hkl, cond_true, show w64 ((k : Int) + 1) = ((k + 1 : Nat) : Int) from (w64_id (by omega) (by omega)).trans (by omega)]
      rw [getD_cons' hkl, accS] at h
      generalize hq : decide (v > (IntKind.u64.wrap ((IntKind.u64.wrap (most - (IntKind.u64.wrap (w8 (asI (es.getD k .junk) - 48))))).tdiv 10))) = q at h ⊢
      cases q with
      | true => exact h
      | false =>
       simp only [cond_false] at h ⊢
       unfold nbN
       rw [show Nat.blt ((es.length : Int) - ((k + 1 : Nat) : Int)).toNat N = true by rw [Nat.blt_eq]; omega, cond_true, dec_iff.2 ⟨rfl, rfl, by omega, by omega, hl⟩, cond_true, show ((k + 1 : Nat) : Int).toNat = k + 1 from rfl]
       rw [crun_cond]
       exact h
    · rw [decide_eq_false hi, cond_false]
      have : es.drop k = [] := List.drop_eq_nil_of_le (by omega)
      rw [this] at h
      exact h
 · cases h)
noncomputable abbrev T71 : LTab := ltab [("a", e71a), ("b", e71b)]
noncomputable abbrev m71 : Code := markC [(4, "a"), (11, "b")] body71
theorem fill71 : Tryd.f71.body = some (fillC T71 m71) := by kernel_rfl
noncomputable def number_b : CSumm := bodyX Tryd.prog κe πF T71 300 Tryd.f71 m71
theorem number_k0 : KnownX Tryd.prog 71 number_b := knownX_of_body noNumTry mixTry κeOk πFok (lokp_cons na_valid (lokp_cons nb_valid lokp_nil)) Tryd.func71 fill71 (fuel := 300) (fun _ _ _ _ h => h)
end Go.Proofs.YtpelignoebgkbaaDoor
