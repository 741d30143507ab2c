/- Scripts: the program. -/
import Derived.Test.YtpelignoebgkbaaDoorMachine6
import Derived.KernelRfl
import Derived.Test.YtpelignoebgkbaaDoorRows
import Derived.Test.YtpelignoebgkbaaDoorMachine7
set_option linter.unusedVariables false
set_option linter.unusedSimpArgs false
namespace Go.Proofs.YtpelignoebgkbaaDoor
open Go.Am
set_option maxRecDepth 100000
theorem noNumTry : noNum Tryd.prog := by unfold noNum; kernel_rfl
theorem mixTry : Tryd.prog.follows .mixedOrders = true := by kernel_rfl
theorem ok0 : KOk Tryd.prog (tbl []) := tbl_nil
noncomputable abbrev opn (T : Nat → Option CSumm) (fn : Func) : CSumm := bodyC Tryd.prog (openT Tryd.prog T 300 5) (fun g => inl T g && hasBody Tryd.prog g) true 300 fn
noncomputable def dec (p : Prop) : Bool := (Classical.propDecidable p).decide
theorem inB_ok {i : Int} {n : Nat} (h0 : 0 ≤ i) (h1 : i < n) : inB i n = true := by unfold inB; rw [decide_eq_true h0, decide_eq_true h1]; rfl
end Go.Proofs.YtpelignoebgkbaaDoor
/- Scripts: the chapter's examples, carried out. -/
namespace Go.Proofs.YtpelignoebgkbaaDoor
open Go.Am
set_option maxRecDepth 100000
def sq1 : Option Code → Code
 | some (.seq a _) => a
 | _ => .skip
def sq2 : Option Code → Code
 | some (.seq _ b) => b
 | _ => .skip
noncomputable def lnA : Code := sq1 Tryd.f15.body
noncomputable def lnD : Code := sq1 (some (sq2 Tryd.f15.body))
noncomputable def lnB : Code := sq2 (some (sq2 Tryd.f15.body))
noncomputable def lcR : Code := sq1 Tryd.f31.body
noncomputable def lcB : Code := sq2 Tryd.f31.body
def rgO (c : Code) (i : Nat) : Oper := match c with
 | .region _ ops _ => match ops[i]? with
  | some o => o
  | none => { dst := none, op := .alloc 0, type := 0, pos := "", after := #[], guard := none }
 | _ => { dst := none, op := .alloc 0, type := 0, pos := "", after := #[], guard := none }
def opC : Op → Call
 | .call c => c
 | .defer c => c
 | _ => { callee := .builtin .recover, args := #[], argTypes := #[] }
abbrev caps3 : List Operand := [.tmp 2, .tmp 3, .tmp 4]
theorem dfr15 : Dfr Tryd.prog Tryd.f15 lnA lnB 6 31 caps3 := ⟨1, rgO lnD 0, rgO lnD 1, opC (rgO lnD 1).op, by kernel_rfl, by kernel_rfl, by kernel_rfl, by kernel_rfl, by kernel_rfl, by kernel_rfl, by kernel_rfl, by kernel_rfl, by kernel_rfl⟩
theorem clo31 : Clo Tryd.prog 31 Tryd.f31 lcB 6 3 := ⟨Tryd.func31, by kernel_rfl, ⟨0, rgO lcR 0, rgO lcR 1, opC (rgO lcR 0).op, by kernel_rfl, by kernel_rfl, by kernel_rfl, by kernel_rfl, by kernel_rfl, by kernel_rfl, by kernel_rfl, by kernel_rfl, by kernel_rfl⟩, of_decide_eq_true (by kernel_rfl), of_decide_eq_true (by kernel_rfl), of_decide_eq_true (by kernel_rfl)⟩
noncomputable def lineC : CSumm := deferC Tryd.prog (closedS Tryd.prog 300 12) Tryd.f15 Tryd.f31 lnA lnB lcB 6 31 6 3 caps3
theorem lineC_k : Known Tryd.prog 15 lineC := ⟨⟨Tryd.f15, Tryd.func15, noNum_at noNumTry Tryd.func15, rfl⟩, defer_valid (closed_ok noNumTry mixTry 300 12) Tryd.func15 dfr15 clo31⟩
theorem lives_k : Known Tryd.prog 6 (constS (.bool true)) := known_closedT (fuel := 300) (n := 12) noNumTry mixTry (tbl_cons lineC_k ok0) Tryd.func6 rfl (by kernel_rfl)
end Go.Proofs.YtpelignoebgkbaaDoor
/- Scripts: frames, by both sides. -/
namespace Go.Proofs.YtpelignoebgkbaaDoor
open Go.Am
set_option maxRecDepth 100000
def sendsB (k : Int) : Bool := k == 12 || k == 9 || k == 10 || k == 11
def sends_s : CSumm
 | [.int .i64 k], [] => .ret (.bool (sendsB k)) []
 | _, _ => .fail
def sendsR (k : Int) : CTree := bif k == 12 then CTree.ret (SV.bool true) []
else
 bif k == 9 then bif k == 9 then CTree.ret (SV.bool true) [] else CTree.ret (SV.bool false) []
 else
  bif k == 10 then bif k == 10 then CTree.ret (SV.bool true) [] else CTree.ret (SV.bool false) []
  else bif k == 11 then CTree.ret (SV.bool true) [] else CTree.ret (SV.bool false) []
theorem sends_t (k : Int) : opn (tbl []) Tryd.f19 [.int .i64 k] [] = sendsR k := by kernel_rfl
theorem sends6_t (k : Int) : opn (tbl []) Tryd.f21 [.int .i64 k] [] = CTree.ret (SV.bool (bif bif bif k == 9 then true else k == 10 then true else k == 11 then true else k == 12)) [] := by kernel_rfl
theorem sends_k : Known Tryd.prog 19 sends_s := known_of_bodyC noNumTry mixTry (openT_ok noNumTry mixTry ok0 300 5) Tryd.func19 rfl (by
 intro args H v ups h
 unfold sends_s at h
 split at h
 · rename_i k
   refine Eq.trans (congrArg crun (sends_t k)) ?_
   rw [← h]
   unfold sendsR sendsB
   cases k == 9 <;> cases k == 10 <;> cases k == 11 <;> cases k == 12 <;> rfl
 · cases h)
theorem sends6_k : Known Tryd.prog 21 sends_s := known_of_bodyC noNumTry mixTry (openT_ok noNumTry mixTry ok0 300 5) Tryd.func21 rfl (by
 intro args H v ups h
 unfold sends_s at h
 split at h
 · rename_i k
   refine Eq.trans (congrArg crun (sends6_t k)) ?_
   rw [← h]
   unfold sendsB
   cases k == 9 <;> cases k == 10 <;> cases k == 11 <;> cases k == 12 <;> rfl
 · cases h)
noncomputable abbrev TF : List (Nat × CSumm) := [(6, constS (.bool true)), (19, sends_s), (21, sends_s)]
theorem okF : KOk Tryd.prog (tbl TF) := tbl_cons lives_k (tbl_cons sends_k (tbl_cons sends6_k ok0))
end Go.Proofs.YtpelignoebgkbaaDoor
/- Scripts: the law of frames: its tree, and why it answers true. -/
namespace Go.Proofs.YtpelignoebgkbaaDoor
open Go.Am
set_option maxRecDepth 100000
def eqs : List Int → List Int → Bool
 | [a], [b] => a == b
 | a :: l, b :: m => a == b && eqs l m
 | _, _ => false
theorem eqs_self : ∀ {l : List Int}, l ≠ [] → eqs l l = true
 | [], h => absurd rfl h
 | [a], _ => by simp [eqs]
 | a :: b :: l, _ => by simp [eqs, eqs_self (l := b :: l) (by simp)]
def frZ : List Int := [0, 0, 0, 0, 0, 0, 0, 0, 0, 0, 0, 0, 0, 0, 0]
def frT (es : List SV) (k a b m i d : Int) (K : List Int → Bool → CTree) : CTree :=
 bif bif bif !sendsB k then true else decide (a < 0) then true else decide (a ≥ (es.length : Int)) then K frZ false
 else bif inB a es.length then
  bif k == 10 then K [asI (cellAt (List.getD es (Int.toNat a) SV.junk) 0), 281474976710655, 1, 1, asI (cellAt (List.getD es (Int.toNat a) SV.junk) 0), asI (cellAt (List.getD es (Int.toNat a) SV.junk) (0 + 1)), 0, i, 0, 0, 0, 0, 0, 0, d] true
  else bif k == 11 then K [asI (cellAt (List.getD es (Int.toNat a) SV.junk) 0), 1577058561, 2, 0, 0, 0, 0, 0, asI (cellAt (List.getD es (Int.toNat a) SV.junk) (0 + 1)), i, 64, 17, IntKind.wrap IntKind.i64 (1024 + a), b, d] true
  else K [asI (cellAt (List.getD es (Int.toNat a) SV.junk) 0), m, 0, 0, 0, 0, 0, 0, 0, 0, 0, 0, 0, 0, d] true
 else .fail
def lawT (es : List SV) (k a b m i d : Int) : CTree :=
 bif decide ((es.length : Int) > 20) then .ret (.bool true) [] else
  frT es k a b m i d fun x is => frT es k a b m i d fun y was => .ret (.bool (bif eqs x y then is == was else false)) []
theorem law_t (es : List SV) (k a b c : Int) (up : Bool) (m i d : Int) : opn (tbl TF) Tryd.f4 [.psl 71 es, .agg [.int .i64 k, .int .i64 a, .int .i64 b, .int .i64 c, .bool up, .int .u64 m, .int .u32 i, .int .u64 d]] [] = lawT es k a b m i d := by kernel_rfl
theorem fr_same (es : List SV) (k a b m i d : Int) : crun (frT es k a b m i d fun x is => frT es k a b m i d fun y was => .ret (.bool (bif eqs x y then is == was else false)) []) = some (.bool true, []) := by
 unfold frT
 cases hq : (bif bif !sendsB k then true else decide (a < 0) then true else decide (a ≥ (es.length : Int))) with
 | true => rfl
 | false =>
  have hb : inB a es.length = true := by
   cases h1 : sendsB k <;> cases h2 : decide (a < 0) <;> cases h3 : decide (a ≥ (es.length : Int)) <;> simp [h1, h2, h3] at hq
   have g2 := of_decide_eq_false h2
   have g3 := of_decide_eq_false h3
   exact inB_ok (by omega) (by omega)
  simp only [hb, cond_true, cond_false]
  cases k == 10 with
  | true => simp only [cond_true]; rw [eqs_self (by simp)]; rfl
  | false =>
   simp only [cond_false]
   cases k == 11 with
   | true => simp only [cond_true]; rw [eqs_self (by simp)]; rfl
   | false => simp only [cond_false]; rw [eqs_self (by simp)]; rfl
theorem law_true (es : List SV) (k a b m i d : Int) : crun (lawT es k a b m i d) = some (.bool true, []) := by
 unfold lawT
 cases decide ((es.length : Int) > 20) with
 | true => rfl
 | false => exact fr_same es k a b m i d
def frames_s : CSumm
 | [.psl 71 _, .agg [.int .i64 _, .int .i64 _, .int .i64 _, .int .i64 _, .bool _, .int .u64 _, .int .u32 _, .int .u64 _]], [] => .ret (.bool true) []
 | _, _ => .fail
theorem frames_k : Known Tryd.prog 4 frames_s := known_of_bodyC noNumTry mixTry (openT_ok noNumTry mixTry okF 300 5) Tryd.func4 rfl (by
 intro args H v ups h
 unfold frames_s at h
 split at h
 · refine (Eq.trans (congrArg crun (law_t _ _ _ _ _ _ _ _ _)) (law_true _ _ _ _ _ _ _)).trans ?_
   rw [← h]
   rfl
 · cases h)
end Go.Proofs.YtpelignoebgkbaaDoor
