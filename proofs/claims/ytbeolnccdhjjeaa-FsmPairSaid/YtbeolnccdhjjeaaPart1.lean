/- Sessions: the program. -/
import Derived.Test.YtbeolnccdhjjeaaMachine7
import Derived.KernelRfl
import Derived.Test.YtbeolnccdhjjeaaRows
set_option linter.unusedVariables false
set_option linter.unusedSimpArgs false
namespace Go.Proofs.Ytbeolnccdhjjeaa
open Go.Am
set_option maxRecDepth 100000
theorem noNumTry : noNum Try.prog := by unfold noNum; kernel_rfl
theorem mixTry : Try.prog.follows .mixedOrders = true := by kernel_rfl
theorem ok0 : KOk Try.prog (tbl []) := tbl_nil
end Go.Proofs.Ytbeolnccdhjjeaa
/- Sessions: what single functions compute: the kinds of events; copies. -/
namespace Go.Proofs.Ytbeolnccdhjjeaa
open Go.Am
set_option maxRecDepth 100000
def knownB (k : Int) : Bool := k == 1 || k == 2 || k == 3 || k == 4 || k == 5 || k == 6 || k == 7
def known_s : CSumm
 | [.int .i64 k], [] => .ret (.bool (knownB k)) []
 | _, _ => .fail
def knownR (k : Int) : CTree := bif k == 3 then
        bif k == 3 then CTree.ret (SV.bool true) []
        else
         bif k == 5 then bif k == 5 then CTree.ret (SV.bool true) [] else CTree.ret (SV.bool false) []
         else bif k == 6 then CTree.ret (SV.bool true) [] else CTree.ret (SV.bool false) []
      else
       bif k == 4 then CTree.ret (SV.bool true) []
       else
        bif k == 5 then bif k == 5 then CTree.ret (SV.bool true) [] else CTree.ret (SV.bool false) []
        else bif k == 6 then CTree.ret (SV.bool true) [] else CTree.ret (SV.bool false) []
theorem known_t (k : Int) : bodyS Try.prog (tbl []) Try.f33 [.int .i64 k] [] = bif k == 1 then bif k == 1 then CTree.ret (SV.bool true) [] else knownR k
 else bif k == 2 then bif k == 2 then CTree.ret (SV.bool true) [] else knownR k else bif k == 7 then CTree.ret (SV.bool true) [] else knownR k := by kernel_rfl
theorem known_k : Known Try.prog 33 known_s := known_of_bodyS noNumTry mixTry ok0 Try.func33 rfl (by
 intro args H v ups h
 unfold known_s at h
 split at h
 · rename_i k
   rw [known_t, ← h]
   unfold knownR knownB
   cases k == 1 <;> cases k == 2 <;> cases k == 3 <;> cases k == 4 <;> cases k == 5 <;> cases k == 6 <;> cases k == 7 <;> rfl
 · cases h)
theorem bytes22 : Try.prog.types[22].bytes = 4 := by kernel_rfl
theorem bytes23 : Try.prog.types[23].bytes = 4 := by kernel_rfl
theorem bytes119 : Try.prog.types[119].bytes = 8 := by kernel_rfl
theorem bytes103 : Try.prog.types[103].bytes = 80 := by kernel_rfl
theorem grow_run {b n : Nat} {es : List SV} {v : SV} {u : List (Nat × Option Chunk)} {t : CTree} (h : bndE b es = true) (ht : t = bif decide (0 + es.length ≤ 9223372036854775807) && decide ((0 + es.length) * n ≤ 140737488355328) then .ret v u else .fail) (hb : n = b) : crun t = some (v, u) := by
 subst hb
 rw [ht]
 unfold bndE at h
 rw [Nat.zero_add, h]
 rfl
noncomputable abbrev b0 (fn : Func) : CSumm := bodyS Try.prog (tbl []) fn
theorem valid0 {f : FuncId} {fn : Func} (hf : Try.prog.funcs[f]? = some fn) : ValidC Try.prog f (b0 fn) := body_valid ok0 mixTry hf
theorem cl78_k : Known Try.prog 78 (cloneS 22 4) := known_clone (sz := 1) noNumTry mixTry Try.func78 rfl (valid0 Try.func78) (by
 have h : b0 Try.f78 [.nils] [] = .ret .nils [] := by kernel_rfl
 rw [h]; rfl) (fun es h => grow_run h (by kernel_rfl) bytes22)
theorem cl79_k : Known Try.prog 79 (cloneS 23 4) := known_clone (sz := 1) noNumTry mixTry Try.func79 rfl (valid0 Try.func79) (by
 have h : b0 Try.f79 [.nils] [] = .ret .nils [] := by kernel_rfl
 rw [h]; rfl) (fun es h => grow_run h (by kernel_rfl) bytes23)
theorem cl80_k : Known Try.prog 80 (cloneS 119 8) := known_clone (sz := 8) noNumTry mixTry Try.func80 rfl (valid0 Try.func80) (by
 have h : b0 Try.f80 [.nils] [] = .ret .nils [] := by kernel_rfl
 rw [h]; rfl) (fun es h => grow_run h (by kernel_rfl) bytes119)
theorem cl81_k : Known Try.prog 81 (cloneS 103 80) := known_clone (sz := 21) noNumTry mixTry Try.func81 rfl (valid0 Try.func81) (by
 have h : b0 Try.f81 [.nils] [] = .ret .nils [] := by kernel_rfl
 rw [h]; rfl) (fun es h => grow_run h (by kernel_rfl) bytes103)
end Go.Proofs.Ytbeolnccdhjjeaa
/- Sessions: what a step is, in plain terms, for any use of its outcome. -/
namespace Go.Proofs.Ytbeolnccdhjjeaa
open Go.Am
structure Ses where
 (ph asn id pe ho re rs : Int) (pas rsd : Bool) (oas oh oid ors : Int) (ord : Bool) (hold ex al ret : Int)
structure Msg where
 (kind mas mh mid mrs : Int) (mrd : Bool) (code sub ori : Int) (path : List SV) (nx : Int) (hm : Bool) (med : Int) (hp : Bool) (prf : Int) (hor : Bool) (orr : Int) (cl cm : List SV) (tk tl tr tg : Int) (reach un : List SV)
structure Act where
 (kind : Int) (m : Msg) (reason : Int)
abbrev Ses.v (s : Ses) : SV := .agg [.int .i64 s.ph, .int .u32 s.asn, .int .u32 s.id, .int .u32 s.pe, .int .i64 s.ho, .int .i64 s.re, .int .i64 s.rs, .bool s.pas, .bool s.rsd, .int .u32 s.oas, .int .i64 s.oh, .int .u32 s.oid, .int .i64 s.ors, .bool s.ord, .int .i64 s.hold, .int .i64 s.ex, .int .i64 s.al, .int .i64 s.ret]
abbrev Msg.cs (m : Msg) : List SV := [.int .i64 m.kind, .int .u32 m.mas, .int .i64 m.mh, .int .u32 m.mid, .int .i64 m.mrs, .bool m.mrd, .int .i64 m.code, .int .i64 m.sub, .int .i64 m.ori, .psl 22 m.path, .int .u32 m.nx, .bool m.hm, .int .u32 m.med, .bool m.hp, .int .u32 m.prf, .bool m.hor, .int .u32 m.orr, .psl 23 m.cl, .psl 119 m.cm, .int .i64 m.tk, .int .u32 m.tl, .int .u32 m.tr, .int .u32 m.tg, .psl 103 m.reach, .psl 103 m.un]
abbrev Msg.v (m : Msg) : SV := .agg m.cs
abbrev evV (k : Int) (m : Msg) : SV := .agg (.int .i64 k :: m.cs)
abbrev Act.v (a : Act) : SV := .agg (.int .i64 a.kind :: (a.m.cs ++ [.int .i64 a.reason]))
def msg0 : Msg := ⟨0, 0, 0, 0, 0, false, 0, 0, 0, [], 0, false, 0, false, 0, false, 0, [], [], 0, 0, 0, 0, [], []⟩
abbrev plain (kind : Int) : Act := ⟨kind, msg0, 0⟩
abbrev send (m : Msg) : Act := ⟨1, m, 0⟩
abbrev w64 (n : Int) : Int := IntKind.i64.wrap n
def holdB (n : Int) : Bool := bif n == 0 then true else bif decide (n ≥ 3) then decide (n ≤ 65535) else false
def timerB (n : Int) : Bool := bif n == -1 then true else bif decide (n ≥ 0) then decide (n ≤ 2199023255552) else false
def soundB (id pe ho re rs : Int) : Bool := id != 0 && pe != 0 && id != pe && holdB ho && decide (re ≥ 1) && decide (re ≤ 65535) && decide (rs ≥ 0) && decide (rs ≤ 4095)
def Ses.ok (s : Ses) : Bool := soundB s.id s.pe s.ho s.re s.rs && decide (s.ph ≥ 0) && decide (s.ph ≤ 4) && holdB s.hold && timerB s.ex && timerB s.al && timerB s.ret
def dueB (t now : Int) : Bool := bif t != -1 then decide (t ≤ now) else false
def lightB (m : Msg) : Bool := bndE 4 m.path && bndE 4 m.cl && bndE 8 m.cm && bndE 80 m.reach && bndE 80 m.un
section
variable {R : Type} (ite : Bool → R → R → R) (fl : R)
def setRetryG (s : Ses) (now : Int) (κ : Ses → R) : R := ite s.pas (κ { s with ret := -1 }) (κ { s with ret := w64 (now + s.re) })
def setHoldG (s : Ses) (now : Int) (κ : Ses → R) : R := ite (s.hold == 0) (κ { s with ex := -1 }) (κ { s with ex := w64 (now + s.hold) })
def setAliveG (s : Ses) (now : Int) (κ : Ses → R) : R := ite (s.hold == 0) (κ { s with al := -1 }) (κ { s with al := w64 (now + w64 (s.hold.tdiv 3)) })
def leaveG (s : Ses) (l : List Act) (reason now : Int) (κ : Ses → List Act → R) : R :=
 bif s.ph == 4 then setRetryG ite { s with ph := 1, oas := 0, oh := 0, oid := 0, ors := 0, ord := false, hold := 0, ex := -1, al := -1 } now (fun s => κ s (l ++ [⟨5, msg0, reason⟩]))
 else setRetryG ite { s with ph := 1, oas := 0, oh := 0, oid := 0, ors := 0, ord := false, hold := 0, ex := -1, al := -1 } now (fun s => κ s l)
def failG (s : Ses) (code sub reason now : Int) (κ : Ses → List Act → R) : R :=
 leaveG ite s [send { msg0 with kind := 3, code := code, sub := sub }, plain 3] reason now κ
def idleS (s : Ses) : Ses := { s with ph := 0, ret := -1 }
def laterG (s : Ses) (k : Int) (m : Msg) (now : Int) (κ : Ses → List Act → R) (look : R) : R :=
 bif k == 2 then failG ite s 6 2 5 now (fun s l => κ (idleS s) l)
 else bif k == 4 then leaveG ite s [] 1 now κ
 else bif k == 7 then
  ite (dueB s.ex now) (failG ite s 4 0 2 now κ)
   (ite (dueB s.al now) (κ { s with al := w64 (now + w64 (s.hold.tdiv 3)) } [send { msg0 with kind := 4 }])
    (κ s []))
 else bif k == 6 then failG ite s m.code m.sub 4 now κ
 else bif k == 5 then ite (m.kind != 3) look (leaveG ite s [plain 3] 3 now κ)
 else κ s []
def stepG (s : Ses) (k : Int) (m : Msg) (now : Int) (κ : Ses → List Act → R) : R :=
 bif s.ph == 0 then
  bif k == 1 then
   ite (!s.pas) (setRetryG ite { s with ph := 1 } now (fun s => κ s [plain 2]))
    (setRetryG ite { s with ph := 1 } now (fun s => κ s []))
  else bif k == 3 then κ s [plain 3] else κ s []
 else bif s.ph == 1 then
  bif k == 2 then leaveG ite s [] 5 now (fun s l => κ (idleS s) l)
  else bif k == 3 then κ { s with ph := 2, ex := w64 (now + 30), ret := -1 } [send { msg0 with kind := 1, mas := s.asn, mh := s.ho, mid := s.id, mrs := s.rs, mrd := s.rsd }]
  else bif k == 4 then leaveG ite s [] 1 now κ
  else bif k == 7 then ite (dueB s.ret now) (setRetryG ite s now (fun s => κ s [plain 2])) (κ s [])
  else κ s []
 else bif s.ph == 2 then
  laterG ite s k m now κ
   (ite (m.kind != 1) (failG ite s 5 (w64 (s.ph - 1)) 4 now κ) <|
   ite (m.mas != s.asn) (failG ite s 2 2 4 now κ) <|
   ite (m.mid != s.pe) (failG ite s 2 3 4 now κ) <|
   ite (!holdB m.mh) (failG ite s 2 6 4 now κ) <|
   setHoldG ite { s with oas := m.mas, oh := m.mh, oid := m.mid, ors := m.mrs, ord := m.mrd, hold := bif decide (m.mh < s.ho) then m.mh else s.ho, ph := 3 } now (fun s => setAliveG ite s now (fun s => κ s [send { msg0 with kind := 4 }])))
 else bif s.ph == 3 then
  laterG ite s k m now κ
   (ite (m.kind != 4) (failG ite s 5 (w64 (s.ph - 1)) 4 now κ) <|
   setHoldG ite { s with ph := 4 } now (fun s => κ s [⟨4, { msg0 with kind := 1, mas := s.oas, mh := s.oh, mid := s.oid, mrs := s.ors, mrd := s.ord }, 0⟩]))
 else
  laterG ite s k m now κ
   (let deliver := ite (bndE 4 m.path) (ite (bndE 4 m.cl) (ite (bndE 8 m.cm) (ite (bndE 80 m.reach) (ite (bndE 80 m.un) (setHoldG ite s now (fun s => κ s [⟨6, m, 0⟩])) fl) fl) fl) fl) fl
    let other := ite (m.kind == 4) (setHoldG ite s now (fun s => κ s [])) (failG ite s 5 (w64 (s.ph - 1)) 4 now κ)
    ite (m.kind == 2) (ite (m.kind == 2) deliver other) (ite (m.kind == 5) deliver other))
end
def stepT (s : Ses) (l : List Act) : CTree := match l with
 | [] => .ret (.tup [s.v, .nils]) []
 | a :: l => .ret (.tup [s.v, .qs 0 27 0 (a :: l).length]) [(0, some (.seq 57 ((a :: l).map Act.v)))]
end Go.Proofs.Ytbeolnccdhjjeaa
/- Sessions: the step, as the program computes it. -/
namespace Go.Proofs.Ytbeolnccdhjjeaa
open Go.Am
set_option maxRecDepth 100000
def valid_yes : CSumm
 | [.agg [.int .i64 ph, .int .u32 asn, .int .u32 id, .int .u32 pe, .int .i64 ho, .int .i64 re, .int .i64 rs, .bool pas, .bool rsd, .int .u32 oas, .int .i64 oh, .int .u32 oid, .int .i64 ors, .bool ord, .int .i64 hold, .int .i64 ex, .int .i64 al, .int .i64 ret]], [] =>
  .ite (Ses.ok ⟨ph, asn, id, pe, ho, re, rs, pas, rsd, oas, oh, oid, ors, ord, hold, ex, al, ret⟩) (.ret (.bool true) []) .fail
 | _, _ => .fail
def known_yes : CSumm
 | [.int .i64 k], [] => .ite (knownB k) (.ret (.bool true) []) .fail
 | _, _ => .fail
def hold_s : CSumm
 | [.int .i64 n], [] => .ret (.bool (holdB n)) []
 | _, _ => .fail
abbrev κs := tbl [(13, valid_yes), (33, known_yes), (29, hold_s), (78, cloneS 22 4), (79, cloneS 23 4), (80, cloneS 119 8), (81, cloneS 103 80)]
noncomputable abbrev stepB : CSumm := bodyC Try.prog (openT Try.prog κs 300 5) (fun g => inl κs g && hasBody Try.prog g) true 300 Try.f15
def stepW (s : Ses) (k : Int) (m : Msg) (now : Int) : CTree :=
 bif s.ok then
  bif decide (now < 0) then stepT s [] else bif decide (now > 1099511627776) then stepT s [] else
  bif knownB k then stepG cond .fail s k m now stepT else .fail
 else .fail
theorem step_0_1 (asn id pe ho re rs : Int) (pas rsd : Bool) (oas oh oid ors : Int) (ord : Bool) (hold ex al ret : Int) (m : Msg) (now : Int) : stepB [Ses.v ⟨0, asn, id, pe, ho, re, rs, pas, rsd, oas, oh, oid, ors, ord, hold, ex, al, ret⟩, evV 1 m, .int .i64 now] [] = stepW ⟨0, asn, id, pe, ho, re, rs, pas, rsd, oas, oh, oid, ors, ord, hold, ex, al, ret⟩ 1 m now := by kernel_rfl
theorem step_0_2 (asn id pe ho re rs : Int) (pas rsd : Bool) (oas oh oid ors : Int) (ord : Bool) (hold ex al ret : Int) (m : Msg) (now : Int) : stepB [Ses.v ⟨0, asn, id, pe, ho, re, rs, pas, rsd, oas, oh, oid, ors, ord, hold, ex, al, ret⟩, evV 2 m, .int .i64 now] [] = stepW ⟨0, asn, id, pe, ho, re, rs, pas, rsd, oas, oh, oid, ors, ord, hold, ex, al, ret⟩ 2 m now := by kernel_rfl
theorem step_0_3 (asn id pe ho re rs : Int) (pas rsd : Bool) (oas oh oid ors : Int) (ord : Bool) (hold ex al ret : Int) (m : Msg) (now : Int) : stepB [Ses.v ⟨0, asn, id, pe, ho, re, rs, pas, rsd, oas, oh, oid, ors, ord, hold, ex, al, ret⟩, evV 3 m, .int .i64 now] [] = stepW ⟨0, asn, id, pe, ho, re, rs, pas, rsd, oas, oh, oid, ors, ord, hold, ex, al, ret⟩ 3 m now := by kernel_rfl
theorem step_0_4 (asn id pe ho re rs : Int) (pas rsd : Bool) (oas oh oid ors : Int) (ord : Bool) (hold ex al ret : Int) (m : Msg) (now : Int) : stepB [Ses.v ⟨0, asn, id, pe, ho, re, rs, pas, rsd, oas, oh, oid, ors, ord, hold, ex, al, ret⟩, evV 4 m, .int .i64 now] [] = stepW ⟨0, asn, id, pe, ho, re, rs, pas, rsd, oas, oh, oid, ors, ord, hold, ex, al, ret⟩ 4 m now := by kernel_rfl
theorem step_0_5 (asn id pe ho re rs : Int) (pas rsd : Bool) (oas oh oid ors : Int) (ord : Bool) (hold ex al ret : Int) (m : Msg) (now : Int) : stepB [Ses.v ⟨0, asn, id, pe, ho, re, rs, pas, rsd, oas, oh, oid, ors, ord, hold, ex, al, ret⟩, evV 5 m, .int .i64 now] [] = stepW ⟨0, asn, id, pe, ho, re, rs, pas, rsd, oas, oh, oid, ors, ord, hold, ex, al, ret⟩ 5 m now := by kernel_rfl
theorem step_0_6 (asn id pe ho re rs : Int) (pas rsd : Bool) (oas oh oid ors : Int) (ord : Bool) (hold ex al ret : Int) (m : Msg) (now : Int) : stepB [Ses.v ⟨0, asn, id, pe, ho, re, rs, pas, rsd, oas, oh, oid, ors, ord, hold, ex, al, ret⟩, evV 6 m, .int .i64 now] [] = stepW ⟨0, asn, id, pe, ho, re, rs, pas, rsd, oas, oh, oid, ors, ord, hold, ex, al, ret⟩ 6 m now := by kernel_rfl
theorem step_0_7 (asn id pe ho re rs : Int) (pas rsd : Bool) (oas oh oid ors : Int) (ord : Bool) (hold ex al ret : Int) (m : Msg) (now : Int) : stepB [Ses.v ⟨0, asn, id, pe, ho, re, rs, pas, rsd, oas, oh, oid, ors, ord, hold, ex, al, ret⟩, evV 7 m, .int .i64 now] [] = stepW ⟨0, asn, id, pe, ho, re, rs, pas, rsd, oas, oh, oid, ors, ord, hold, ex, al, ret⟩ 7 m now := by kernel_rfl
theorem step_1_1 (asn id pe ho re rs : Int) (pas rsd : Bool) (oas oh oid ors : Int) (ord : Bool) (hold ex al ret : Int) (m : Msg) (now : Int) : stepB [Ses.v ⟨1, asn, id, pe, ho, re, rs, pas, rsd, oas, oh, oid, ors, ord, hold, ex, al, ret⟩, evV 1 m, .int .i64 now] [] = stepW ⟨1, asn, id, pe, ho, re, rs, pas, rsd, oas, oh, oid, ors, ord, hold, ex, al, ret⟩ 1 m now := by kernel_rfl
theorem step_1_2 (asn id pe ho re rs : Int) (pas rsd : Bool) (oas oh oid ors : Int) (ord : Bool) (hold ex al ret : Int) (m : Msg) (now : Int) : stepB [Ses.v ⟨1, asn, id, pe, ho, re, rs, pas, rsd, oas, oh, oid, ors, ord, hold, ex, al, ret⟩, evV 2 m, .int .i64 now] [] = stepW ⟨1, asn, id, pe, ho, re, rs, pas, rsd, oas, oh, oid, ors, ord, hold, ex, al, ret⟩ 2 m now := by kernel_rfl
theorem step_1_3 (asn id pe ho re rs : Int) (pas rsd : Bool) (oas oh oid ors : Int) (ord : Bool) (hold ex al ret : Int) (m : Msg) (now : Int) : stepB [Ses.v ⟨1, asn, id, pe, ho, re, rs, pas, rsd, oas, oh, oid, ors, ord, hold, ex, al, ret⟩, evV 3 m, .int .i64 now] [] = stepW ⟨1, asn, id, pe, ho, re, rs, pas, rsd, oas, oh, oid, ors, ord, hold, ex, al, ret⟩ 3 m now := by kernel_rfl
theorem step_1_4 (asn id pe ho re rs : Int) (pas rsd : Bool) (oas oh oid ors : Int) (ord : Bool) (hold ex al ret : Int) (m : Msg) (now : Int) : stepB [Ses.v ⟨1, asn, id, pe, ho, re, rs, pas, rsd, oas, oh, oid, ors, ord, hold, ex, al, ret⟩, evV 4 m, .int .i64 now] [] = stepW ⟨1, asn, id, pe, ho, re, rs, pas, rsd, oas, oh, oid, ors, ord, hold, ex, al, ret⟩ 4 m now := by kernel_rfl
theorem step_1_5 (asn id pe ho re rs : Int) (pas rsd : Bool) (oas oh oid ors : Int) (ord : Bool) (hold ex al ret : Int) (m : Msg) (now : Int) : stepB [Ses.v ⟨1, asn, id, pe, ho, re, rs, pas, rsd, oas, oh, oid, ors, ord, hold, ex, al, ret⟩, evV 5 m, .int .i64 now] [] = stepW ⟨1, asn, id, pe, ho, re, rs, pas, rsd, oas, oh, oid, ors, ord, hold, ex, al, ret⟩ 5 m now := by kernel_rfl
theorem step_1_6 (asn id pe ho re rs : Int) (pas rsd : Bool) (oas oh oid ors : Int) (ord : Bool) (hold ex al ret : Int) (m : Msg) (now : Int) : stepB [Ses.v ⟨1, asn, id, pe, ho, re, rs, pas, rsd, oas, oh, oid, ors, ord, hold, ex, al, ret⟩, evV 6 m, .int .i64 now] [] = stepW ⟨1, asn, id, pe, ho, re, rs, pas, rsd, oas, oh, oid, ors, ord, hold, ex, al, ret⟩ 6 m now := by kernel_rfl
theorem step_1_7 (asn id pe ho re rs : Int) (pas rsd : Bool) (oas oh oid ors : Int) (ord : Bool) (hold ex al ret : Int) (m : Msg) (now : Int) : stepB [Ses.v ⟨1, asn, id, pe, ho, re, rs, pas, rsd, oas, oh, oid, ors, ord, hold, ex, al, ret⟩, evV 7 m, .int .i64 now] [] = stepW ⟨1, asn, id, pe, ho, re, rs, pas, rsd, oas, oh, oid, ors, ord, hold, ex, al, ret⟩ 7 m now := by kernel_rfl
theorem step_2_1 (asn id pe ho re rs : Int) (pas rsd : Bool) (oas oh oid ors : Int) (ord : Bool) (hold ex al ret : Int) (m : Msg) (now : Int) : stepB [Ses.v ⟨2, asn, id, pe, ho, re, rs, pas, rsd, oas, oh, oid, ors, ord, hold, ex, al, ret⟩, evV 1 m, .int .i64 now] [] = stepW ⟨2, asn, id, pe, ho, re, rs, pas, rsd, oas, oh, oid, ors, ord, hold, ex, al, ret⟩ 1 m now := by kernel_rfl
theorem step_2_2 (asn id pe ho re rs : Int) (pas rsd : Bool) (oas oh oid ors : Int) (ord : Bool) (hold ex al ret : Int) (m : Msg) (now : Int) : stepB [Ses.v ⟨2, asn, id, pe, ho, re, rs, pas, rsd, oas, oh, oid, ors, ord, hold, ex, al, ret⟩, evV 2 m, .int .i64 now] [] = stepW ⟨2, asn, id, pe, ho, re, rs, pas, rsd, oas, oh, oid, ors, ord, hold, ex, al, ret⟩ 2 m now := by kernel_rfl
theorem step_2_3 (asn id pe ho re rs : Int) (pas rsd : Bool) (oas oh oid ors : Int) (ord : Bool) (hold ex al ret : Int) (m : Msg) (now : Int) : stepB [Ses.v ⟨2, asn, id, pe, ho, re, rs, pas, rsd, oas, oh, oid, ors, ord, hold, ex, al, ret⟩, evV 3 m, .int .i64 now] [] = stepW ⟨2, asn, id, pe, ho, re, rs, pas, rsd, oas, oh, oid, ors, ord, hold, ex, al, ret⟩ 3 m now := by kernel_rfl
theorem step_2_4 (asn id pe ho re rs : Int) (pas rsd : Bool) (oas oh oid ors : Int) (ord : Bool) (hold ex al ret : Int) (m : Msg) (now : Int) : stepB [Ses.v ⟨2, asn, id, pe, ho, re, rs, pas, rsd, oas, oh, oid, ors, ord, hold, ex, al, ret⟩, evV 4 m, .int .i64 now] [] = stepW ⟨2, asn, id, pe, ho, re, rs, pas, rsd, oas, oh, oid, ors, ord, hold, ex, al, ret⟩ 4 m now := by kernel_rfl
theorem step_2_5 (asn id pe ho re rs : Int) (pas rsd : Bool) (oas oh oid ors : Int) (ord : Bool) (hold ex al ret : Int) (m : Msg) (now : Int) : stepB [Ses.v ⟨2, asn, id, pe, ho, re, rs, pas, rsd, oas, oh, oid, ors, ord, hold, ex, al, ret⟩, evV 5 m, .int .i64 now] [] = stepW ⟨2, asn, id, pe, ho, re, rs, pas, rsd, oas, oh, oid, ors, ord, hold, ex, al, ret⟩ 5 m now := by kernel_rfl
theorem step_2_6 (asn id pe ho re rs : Int) (pas rsd : Bool) (oas oh oid ors : Int) (ord : Bool) (hold ex al ret : Int) (m : Msg) (now : Int) : stepB [Ses.v ⟨2, asn, id, pe, ho, re, rs, pas, rsd, oas, oh, oid, ors, ord, hold, ex, al, ret⟩, evV 6 m, .int .i64 now] [] = stepW ⟨2, asn, id, pe, ho, re, rs, pas, rsd, oas, oh, oid, ors, ord, hold, ex, al, ret⟩ 6 m now := by kernel_rfl
theorem step_2_7 (asn id pe ho re rs : Int) (pas rsd : Bool) (oas oh oid ors : Int) (ord : Bool) (hold ex al ret : Int) (m : Msg) (now : Int) : stepB [Ses.v ⟨2, asn, id, pe, ho, re, rs, pas, rsd, oas, oh, oid, ors, ord, hold, ex, al, ret⟩, evV 7 m, .int .i64 now] [] = stepW ⟨2, asn, id, pe, ho, re, rs, pas, rsd, oas, oh, oid, ors, ord, hold, ex, al, ret⟩ 7 m now := by kernel_rfl
theorem step_3_1 (asn id pe ho re rs : Int) (pas rsd : Bool) (oas oh oid ors : Int) (ord : Bool) (hold ex al ret : Int) (m : Msg) (now : Int) : stepB [Ses.v ⟨3, asn, id, pe, ho, re, rs, pas, rsd, oas, oh, oid, ors, ord, hold, ex, al, ret⟩, evV 1 m, .int .i64 now] [] = stepW ⟨3, asn, id, pe, ho, re, rs, pas, rsd, oas, oh, oid, ors, ord, hold, ex, al, ret⟩ 1 m now := by kernel_rfl
theorem step_3_2 (asn id pe ho re rs : Int) (pas rsd : Bool) (oas oh oid ors : Int) (ord : Bool) (hold ex al ret : Int) (m : Msg) (now : Int) : stepB [Ses.v ⟨3, asn, id, pe, ho, re, rs, pas, rsd, oas, oh, oid, ors, ord, hold, ex, al, ret⟩, evV 2 m, .int .i64 now] [] = stepW ⟨3, asn, id, pe, ho, re, rs, pas, rsd, oas, oh, oid, ors, ord, hold, ex, al, ret⟩ 2 m now := by kernel_rfl
theorem step_3_3 (asn id pe ho re rs : Int) (pas rsd : Bool) (oas oh oid ors : Int) (ord : Bool) (hold ex al ret : Int) (m : Msg) (now : Int) : stepB [Ses.v ⟨3, asn, id, pe, ho, re, rs, pas, rsd, oas, oh, oid, ors, ord, hold, ex, al, ret⟩, evV 3 m, .int .i64 now] [] = stepW ⟨3, asn, id, pe, ho, re, rs, pas, rsd, oas, oh, oid, ors, ord, hold, ex, al, ret⟩ 3 m now := by kernel_rfl
theorem step_3_4 (asn id pe ho re rs : Int) (pas rsd : Bool) (oas oh oid ors : Int) (ord : Bool) (hold ex al ret : Int) (m : Msg) (now : Int) : stepB [Ses.v ⟨3, asn, id, pe, ho, re, rs, pas, rsd, oas, oh, oid, ors, ord, hold, ex, al, ret⟩, evV 4 m, .int .i64 now] [] = stepW ⟨3, asn, id, pe, ho, re, rs, pas, rsd, oas, oh, oid, ors, ord, hold, ex, al, ret⟩ 4 m now := by kernel_rfl
theorem step_3_5 (asn id pe ho re rs : Int) (pas rsd : Bool) (oas oh oid ors : Int) (ord : Bool) (hold ex al ret : Int) (m : Msg) (now : Int) : stepB [Ses.v ⟨3, asn, id, pe, ho, re, rs, pas, rsd, oas, oh, oid, ors, ord, hold, ex, al, ret⟩, evV 5 m, .int .i64 now] [] = stepW ⟨3, asn, id, pe, ho, re, rs, pas, rsd, oas, oh, oid, ors, ord, hold, ex, al, ret⟩ 5 m now := by kernel_rfl
theorem step_3_6 (asn id pe ho re rs : Int) (pas rsd : Bool) (oas oh oid ors : Int) (ord : Bool) (hold ex al ret : Int) (m : Msg) (now : Int) : stepB [Ses.v ⟨3, asn, id, pe, ho, re, rs, pas, rsd, oas, oh, oid, ors, ord, hold, ex, al, ret⟩, evV 6 m, .int .i64 now] [] = stepW ⟨3, asn, id, pe, ho, re, rs, pas, rsd, oas, oh, oid, ors, ord, hold, ex, al, ret⟩ 6 m now := by kernel_rfl
theorem step_3_7 (asn id pe ho re rs : Int) (pas rsd : Bool) (oas oh oid ors : Int) (ord : Bool) (hold ex al ret : Int) (m : Msg) (now : Int) : stepB [Ses.v ⟨3, asn, id, pe, ho, re, rs, pas, rsd, oas, oh, oid, ors, ord, hold, ex, al, ret⟩, evV 7 m, .int .i64 now] [] = stepW ⟨3, asn, id, pe, ho, re, rs, pas, rsd, oas, oh, oid, ors, ord, hold, ex, al, ret⟩ 7 m now := by kernel_rfl
theorem step_4_1 (asn id pe ho re rs : Int) (pas rsd : Bool) (oas oh oid ors : Int) (ord : Bool) (hold ex al ret : Int) (m : Msg) (now : Int) : stepB [Ses.v ⟨4, asn, id, pe, ho, re, rs, pas, rsd, oas, oh, oid, ors, ord, hold, ex, al, ret⟩, evV 1 m, .int .i64 now] [] = stepW ⟨4, asn, id, pe, ho, re, rs, pas, rsd, oas, oh, oid, ors, ord, hold, ex, al, ret⟩ 1 m now := by kernel_rfl
theorem step_4_2 (asn id pe ho re rs : Int) (pas rsd : Bool) (oas oh oid ors : Int) (ord : Bool) (hold ex al ret : Int) (m : Msg) (now : Int) : stepB [Ses.v ⟨4, asn, id, pe, ho, re, rs, pas, rsd, oas, oh, oid, ors, ord, hold, ex, al, ret⟩, evV 2 m, .int .i64 now] [] = stepW ⟨4, asn, id, pe, ho, re, rs, pas, rsd, oas, oh, oid, ors, ord, hold, ex, al, ret⟩ 2 m now := by kernel_rfl
theorem step_4_3 (asn id pe ho re rs : Int) (pas rsd : Bool) (oas oh oid ors : Int) (ord : Bool) (hold ex al ret : Int) (m : Msg) (now : Int) : stepB [Ses.v ⟨4, asn, id, pe, ho, re, rs, pas, rsd, oas, oh, oid, ors, ord, hold, ex, al, ret⟩, evV 3 m, .int .i64 now] [] = stepW ⟨4, asn, id, pe, ho, re, rs, pas, rsd, oas, oh, oid, ors, ord, hold, ex, al, ret⟩ 3 m now := by kernel_rfl
theorem step_4_4 (asn id pe ho re rs : Int) (pas rsd : Bool) (oas oh oid ors : Int) (ord : Bool) (hold ex al ret : Int) (m : Msg) (now : Int) : stepB [Ses.v ⟨4, asn, id, pe, ho, re, rs, pas, rsd, oas, oh, oid, ors, ord, hold, ex, al, ret⟩, evV 4 m, .int .i64 now] [] = stepW ⟨4, asn, id, pe, ho, re, rs, pas, rsd, oas, oh, oid, ors, ord, hold, ex, al, ret⟩ 4 m now := by kernel_rfl
theorem step_4_5 (asn id pe ho re rs : Int) (pas rsd : Bool) (oas oh oid ors : Int) (ord : Bool) (hold ex al ret : Int) (m : Msg) (now : Int) : stepB [Ses.v ⟨4, asn, id, pe, ho, re, rs, pas, rsd, oas, oh, oid, ors, ord, hold, ex, al, ret⟩, evV 5 m, .int .i64 now] [] = stepW ⟨4, asn, id, pe, ho, re, rs, pas, rsd, oas, oh, oid, ors, ord, hold, ex, al, ret⟩ 5 m now := by kernel_rfl
theorem step_4_6 (asn id pe ho re rs : Int) (pas rsd : Bool) (oas oh oid ors : Int) (ord : Bool) (hold ex al ret : Int) (m : Msg) (now : Int) : stepB [Ses.v ⟨4, asn, id, pe, ho, re, rs, pas, rsd, oas, oh, oid, ors, ord, hold, ex, al, ret⟩, evV 6 m, .int .i64 now] [] = stepW ⟨4, asn, id, pe, ho, re, rs, pas, rsd, oas, oh, oid, ors, ord, hold, ex, al, ret⟩ 6 m now := by kernel_rfl
theorem step_4_7 (asn id pe ho re rs : Int) (pas rsd : Bool) (oas oh oid ors : Int) (ord : Bool) (hold ex al ret : Int) (m : Msg) (now : Int) : stepB [Ses.v ⟨4, asn, id, pe, ho, re, rs, pas, rsd, oas, oh, oid, ors, ord, hold, ex, al, ret⟩, evV 7 m, .int .i64 now] [] = stepW ⟨4, asn, id, pe, ho, re, rs, pas, rsd, oas, oh, oid, ors, ord, hold, ex, al, ret⟩ 7 m now := by kernel_rfl
end Go.Proofs.Ytbeolnccdhjjeaa
