/- Sessions: the program. -/
import Derived.Test.YtbeolnccdhjjeaaMachine3
import Derived.KernelRfl
import Derived.Test.YtbeolnccdhjjeaaRows
import Derived.Test.YtbeolnccdhjjeaaMachine4
namespace Go.Proofs.Ytbeolnccdhjjeaa
open Go.Am
set_option maxRecDepth 100000
theorem noNumTry : noNum Try.prog := by unfold noNum; kernel_rfl
theorem mixTry : Try.prog.follows .mixedOrders = true := by kernel_rfl
theorem ok0 : KOk Try.prog (tbl []) := tbl_nil
end Go.Proofs.Ytbeolnccdhjjeaa
/- Sessions: what single functions compute: the kinds of events; copies. -/
namespace Go.Proofs.Ytbeolnccdhjjeaa
open Go.Am
set_option maxRecDepth 100000
def knownB (k : Int) : Bool := k == 1 || k == 2 || k == 3 || k == 4 || k == 5 || k == 6 || k == 7
def known_s : CSumm
  | [.int .i64 k], [] => .ret (.bool (knownB k)) []
  | _, _ => .fail
def knownR (k : Int) : CTree := bif k == 3 then
        bif k == 3 then CTree.ret (SV.bool true) []
        else
          bif k == 5 then bif k == 5 then CTree.ret (SV.bool true) [] else CTree.ret (SV.bool false) []
          else bif k == 6 then CTree.ret (SV.bool true) [] else CTree.ret (SV.bool false) []
      else
        bif k == 4 then CTree.ret (SV.bool true) []
        else
          bif k == 5 then bif k == 5 then CTree.ret (SV.bool true) [] else CTree.ret (SV.bool false) []
          else bif k == 6 then CTree.ret (SV.bool true) [] else CTree.ret (SV.bool false) []
theorem known_t (k : Int) : bodyS Try.prog (tbl []) Try.f33 [.int .i64 k] [] = bif k == 1 then bif k == 1 then CTree.ret (SV.bool true) [] else knownR k
  else bif k == 2 then bif k == 2 then CTree.ret (SV.bool true) [] else knownR k else bif k == 7 then CTree.ret (SV.bool true) [] else knownR k := by kernel_rfl
theorem known_k : Known Try.prog 33 known_s := known_of_bodyS noNumTry mixTry ok0 Try.func33 rfl (by
  intro args H v ups h
  unfold known_s at h
  split at h
  · rename_i k
    rw [known_t, ← h]
    unfold knownR knownB
    cases k == 1 <;> cases k == 2 <;> cases k == 3 <;> cases k == 4 <;> cases k == 5 <;> cases k == 6 <;> cases k == 7 <;> rfl
  · cases h)

theorem bytes22 : Try.prog.types[22].bytes = 4 := by kernel_rfl
theorem bytes23 : Try.prog.types[23].bytes = 4 := by kernel_rfl
theorem bytes119 : Try.prog.types[119].bytes = 8 := by kernel_rfl
theorem bytes103 : Try.prog.types[103].bytes = 80 := by kernel_rfl
theorem grow_run {b n : Nat} {es : List SV} {v : SV} {u : List (Nat × Option Chunk)} {t : CTree} (h : bndE b es = true) (ht : t = bif decide (0 + es.length ≤ 9223372036854775807) && decide ((0 + es.length) * n ≤ 140737488355328) then .ret v u else .fail) (hb : n = b) : crun t = some (v, u) := by
  subst hb
  rw [ht]
  unfold bndE at h
  rw [Nat.zero_add, h]
  rfl
noncomputable abbrev b0 (fn : Func) : CSumm := bodyS Try.prog (tbl []) fn
theorem valid0 {f : FuncId} {fn : Func} (hf : Try.prog.funcs[f]? = some fn) : ValidC Try.prog f (b0 fn) := body_valid ok0 mixTry hf
theorem cl78_k : Known Try.prog 78 (cloneS 22 4) := known_clone (sz := 1) noNumTry mixTry Try.func78 rfl (valid0 Try.func78) (by
  have h : b0 Try.f78 [.nils] [] = .ret .nils [] := by kernel_rfl
  rw [h]; rfl) (fun es h => grow_run h (by kernel_rfl) bytes22)
theorem cl79_k : Known Try.prog 79 (cloneS 23 4) := known_clone (sz := 1) noNumTry mixTry Try.func79 rfl (valid0 Try.func79) (by
  have h : b0 Try.f79 [.nils] [] = .ret .nils [] := by kernel_rfl
  rw [h]; rfl) (fun es h => grow_run h (by kernel_rfl) bytes23)
theorem cl80_k : Known Try.prog 80 (cloneS 119 8) := known_clone (sz := 8) noNumTry mixTry Try.func80 rfl (valid0 Try.func80) (by
  have h : b0 Try.f80 [.nils] [] = .ret .nils [] := by kernel_rfl
  rw [h]; rfl) (fun es h => grow_run h (by kernel_rfl) bytes119)
theorem cl81_k : Known Try.prog 81 (cloneS 103 80) := known_clone (sz := 21) noNumTry mixTry Try.func81 rfl (valid0 Try.func81) (by
  have h : b0 Try.f81 [.nils] [] = .ret .nils [] := by kernel_rfl
  rw [h]; rfl) (fun es h => grow_run h (by kernel_rfl) bytes103)
theorem ow54_k : Known Try.prog 54 (cloneS 103 80) := known_own (sz := 21) noNumTry mixTry Try.func54 rfl (valid0 Try.func54) (fun es h => grow_run h (by kernel_rfl) bytes103)
theorem ow74_k : Known Try.prog 74 (cloneS 22 4) := known_own (sz := 1) noNumTry mixTry Try.func74 rfl (valid0 Try.func74) (fun es h => grow_run h (by kernel_rfl) bytes22)
theorem ow75_k : Known Try.prog 75 (cloneS 23 4) := known_own (sz := 1) noNumTry mixTry Try.func75 rfl (valid0 Try.func75) (fun es h => grow_run h (by kernel_rfl) bytes23)
theorem ow76_k : Known Try.prog 76 (cloneS 119 8) := known_own (sz := 8) noNumTry mixTry Try.func76 rfl (valid0 Try.func76) (fun es h => grow_run h (by kernel_rfl) bytes119)
end Go.Proofs.Ytbeolnccdhjjeaa
/- Sessions: what a step is, in plain terms, for any use of its outcome. -/
namespace Go.Proofs.Ytbeolnccdhjjeaa
open Go.Am
structure Ses where
  (ph asn id pe ho re rs : Int) (pas rsd : Bool) (oas oh oid ors : Int) (ord : Bool) (hold ex al ret : Int)
structure Msg where
  (kind mas mh mid mrs : Int) (mrd : Bool) (code sub ori : Int) (path : List SV) (nx : Int) (hm : Bool) (med : Int) (hp : Bool) (prf : Int) (hor : Bool) (orr : Int) (cl cm : List SV) (tk tl tr tg : Int) (reach un : List SV)
structure Act where
  (kind : Int) (m : Msg) (reason : Int)
abbrev Ses.v (s : Ses) : SV := .agg [.int .i64 s.ph, .int .u32 s.asn, .int .u32 s.id, .int .u32 s.pe, .int .i64 s.ho, .int .i64 s.re, .int .i64 s.rs, .bool s.pas, .bool s.rsd, .int .u32 s.oas, .int .i64 s.oh, .int .u32 s.oid, .int .i64 s.ors, .bool s.ord, .int .i64 s.hold, .int .i64 s.ex, .int .i64 s.al, .int .i64 s.ret]
abbrev Msg.cs (m : Msg) : List SV := [.int .i64 m.kind, .int .u32 m.mas, .int .i64 m.mh, .int .u32 m.mid, .int .i64 m.mrs, .bool m.mrd, .int .i64 m.code, .int .i64 m.sub, .int .i64 m.ori, .psl 22 m.path, .int .u32 m.nx, .bool m.hm, .int .u32 m.med, .bool m.hp, .int .u32 m.prf, .bool m.hor, .int .u32 m.orr, .psl 23 m.cl, .psl 119 m.cm, .int .i64 m.tk, .int .u32 m.tl, .int .u32 m.tr, .int .u32 m.tg, .psl 103 m.reach, .psl 103 m.un]
abbrev Msg.v (m : Msg) : SV := .agg m.cs
abbrev evV (k : Int) (m : Msg) : SV := .agg (.int .i64 k :: m.cs)
abbrev Act.v (a : Act) : SV := .agg (.int .i64 a.kind :: (a.m.cs ++ [.int .i64 a.reason]))

def msg0 : Msg := ⟨0, 0, 0, 0, 0, false, 0, 0, 0, [], 0, false, 0, false, 0, false, 0, [], [], 0, 0, 0, 0, [], []⟩
abbrev plain (kind : Int) : Act := ⟨kind, msg0, 0⟩
abbrev send (m : Msg) : Act := ⟨1, m, 0⟩

abbrev w64 (n : Int) : Int := IntKind.i64.wrap n
def holdB (n : Int) : Bool := bif n == 0 then true else bif decide (n ≥ 3) then decide (n ≤ 65535) else false
def timerB (n : Int) : Bool := bif n == -1 then true else bif decide (n ≥ 0) then decide (n ≤ 2199023255552) else false
def soundB (id pe ho re rs : Int) : Bool := id != 0 && pe != 0 && id != pe && holdB ho && decide (re ≥ 1) && decide (re ≤ 65535) && decide (rs ≥ 0) && decide (rs ≤ 4095)
def Ses.ok (s : Ses) : Bool := soundB s.id s.pe s.ho s.re s.rs && decide (s.ph ≥ 0) && decide (s.ph ≤ 4) && holdB s.hold && timerB s.ex && timerB s.al && timerB s.ret
def dueB (t now : Int) : Bool := bif t != -1 then decide (t ≤ now) else false
def lightB (m : Msg) : Bool := bndE 4 m.path && bndE 4 m.cl && bndE 8 m.cm && bndE 80 m.reach && bndE 80 m.un

section
variable {R : Type} (ite : Bool → R → R → R) (fl : R)
def setRetryG (s : Ses) (now : Int) (κ : Ses → R) : R := ite s.pas (κ { s with ret := -1 }) (κ { s with ret := w64 (now + s.re) })
def setHoldG (s : Ses) (now : Int) (κ : Ses → R) : R := ite (s.hold == 0) (κ { s with ex := -1 }) (κ { s with ex := w64 (now + s.hold) })
def setAliveG (s : Ses) (now : Int) (κ : Ses → R) : R := ite (s.hold == 0) (κ { s with al := -1 }) (κ { s with al := w64 (now + w64 (s.hold.tdiv 3)) })
def leaveG (s : Ses) (l : List Act) (reason now : Int) (κ : Ses → List Act → R) : R :=
  bif s.ph == 4 then setRetryG ite { s with ph := 1, oas := 0, oh := 0, oid := 0, ors := 0, ord := false, hold := 0, ex := -1, al := -1 } now (fun s => κ s (l ++ [⟨5, msg0, reason⟩]))
  else setRetryG ite { s with ph := 1, oas := 0, oh := 0, oid := 0, ors := 0, ord := false, hold := 0, ex := -1, al := -1 } now (fun s => κ s l)
def failG (s : Ses) (code sub reason now : Int) (κ : Ses → List Act → R) : R :=
  leaveG ite s [send { msg0 with kind := 3, code := code, sub := sub }, plain 3] reason now κ
def idleS (s : Ses) : Ses := { s with ph := 0, ret := -1 }
def laterG (s : Ses) (k : Int) (m : Msg) (now : Int) (κ : Ses → List Act → R) (look : R) : R :=
  bif k == 2 then failG ite s 6 2 5 now (fun s l => κ (idleS s) l)
  else bif k == 4 then leaveG ite s [] 1 now κ
  else bif k == 7 then
    ite (dueB s.ex now) (failG ite s 4 0 2 now κ)
      (ite (dueB s.al now) (κ { s with al := w64 (now + w64 (s.hold.tdiv 3)) } [send { msg0 with kind := 4 }])
        (κ s []))
  else bif k == 6 then failG ite s m.code m.sub 4 now κ
  else bif k == 5 then ite (m.kind != 3) look (leaveG ite s [plain 3] 3 now κ)
  else κ s []
def stepG (s : Ses) (k : Int) (m : Msg) (now : Int) (κ : Ses → List Act → R) : R :=
  bif s.ph == 0 then
    bif k == 1 then
      ite (!s.pas) (setRetryG ite { s with ph := 1 } now (fun s => κ s [plain 2]))
        (setRetryG ite { s with ph := 1 } now (fun s => κ s []))
    else bif k == 3 then κ s [plain 3] else κ s []
  else bif s.ph == 1 then
    bif k == 2 then leaveG ite s [] 5 now (fun s l => κ (idleS s) l)
    else bif k == 3 then κ { s with ph := 2, ex := w64 (now + 30), ret := -1 } [send { msg0 with kind := 1, mas := s.asn, mh := s.ho, mid := s.id, mrs := s.rs, mrd := s.rsd }]
    else bif k == 4 then leaveG ite s [] 1 now κ
    else bif k == 7 then ite (dueB s.ret now) (setRetryG ite s now (fun s => κ s [plain 2])) (κ s [])
    else κ s []
  else bif s.ph == 2 then
    laterG ite s k m now κ
      (ite (m.kind != 1) (failG ite s 5 (w64 (s.ph - 1)) 4 now κ) <|
      ite (m.mas != s.asn) (failG ite s 2 2 4 now κ) <|
      ite (m.mid != s.pe) (failG ite s 2 3 4 now κ) <|
      ite (!holdB m.mh) (failG ite s 2 6 4 now κ) <|
      setHoldG ite { s with oas := m.mas, oh := m.mh, oid := m.mid, ors := m.mrs, ord := m.mrd, hold := bif decide (m.mh < s.ho) then m.mh else s.ho, ph := 3 } now (fun s => setAliveG ite s now (fun s => κ s [send { msg0 with kind := 4 }])))
  else bif s.ph == 3 then
    laterG ite s k m now κ
      (ite (m.kind != 4) (failG ite s 5 (w64 (s.ph - 1)) 4 now κ) <|
      setHoldG ite { s with ph := 4 } now (fun s => κ s [⟨4, { msg0 with kind := 1, mas := s.oas, mh := s.oh, mid := s.oid, mrs := s.ors, mrd := s.ord }, 0⟩]))
  else
    laterG ite s k m now κ
      (let deliver := ite (bndE 4 m.path) (ite (bndE 4 m.cl) (ite (bndE 8 m.cm) (ite (bndE 80 m.reach) (ite (bndE 80 m.un) (setHoldG ite s now (fun s => κ s [⟨6, m, 0⟩])) fl) fl) fl) fl) fl
       let other := ite (m.kind == 4) (setHoldG ite s now (fun s => κ s [])) (failG ite s 5 (w64 (s.ph - 1)) 4 now κ)
       ite (m.kind == 2) (ite (m.kind == 2) deliver other) (ite (m.kind == 5) deliver other))
end
def stepT (s : Ses) (l : List Act) : CTree := match l with
  | [] => .ret (.tup [s.v, .nils]) []
  | a :: l => .ret (.tup [s.v, .qs 0 27 0 (a :: l).length]) [(0, some (.seq 57 ((a :: l).map Act.v)))]
end Go.Proofs.Ytbeolnccdhjjeaa
/- Sessions: the step, as the program computes it. -/
namespace Go.Proofs.Ytbeolnccdhjjeaa
open Go.Am
set_option maxRecDepth 100000
def valid_yes : CSumm
  | [.agg [.int .i64 ph, .int .u32 asn, .int .u32 id, .int .u32 pe, .int .i64 ho, .int .i64 re, .int .i64 rs, .bool pas, .bool rsd, .int .u32 oas, .int .i64 oh, .int .u32 oid, .int .i64 ors, .bool ord, .int .i64 hold, .int .i64 ex, .int .i64 al, .int .i64 ret]], [] =>
    .ite (Ses.ok ⟨ph, asn, id, pe, ho, re, rs, pas, rsd, oas, oh, oid, ors, ord, hold, ex, al, ret⟩) (.ret (.bool true) []) .fail
  | _, _ => .fail
def known_yes : CSumm
  | [.int .i64 k], [] => .ite (knownB k) (.ret (.bool true) []) .fail
  | _, _ => .fail
def hold_s : CSumm
  | [.int .i64 n], [] => .ret (.bool (holdB n)) []
  | _, _ => .fail
def due_s : CSumm
  | [.ptr 0 0, .int .i64 t], [(0, .cells 81 [_, _, _, _, _, _, _, _, _, _, _, _, _, _, _, _, _, _, .int .i64 now, _])] => .ret (.bool (dueB t now)) []
  | _, _ => .fail
abbrev κs := tbl [(13, valid_yes), (33, known_yes), (29, hold_s), (78, cloneS 22 4), (79, cloneS 23 4), (80, cloneS 119 8), (81, cloneS 103 80)]
noncomputable abbrev stepB : CSumm := bodyC Try.prog (openT Try.prog κs 300 5) (fun g => inl κs g && hasBody Try.prog g) true 300 Try.f15

def stepW (s : Ses) (k : Int) (m : Msg) (now : Int) : CTree :=
  bif s.ok then
    bif decide (now < 0) then stepT s [] else bif decide (now > 1099511627776) then stepT s [] else
    bif knownB k then stepG cond .fail s k m now stepT else .fail
  else .fail

theorem step_0_1 (asn id pe ho re rs : Int) (pas rsd : Bool) (oas oh oid ors : Int) (ord : Bool) (hold ex al ret : Int) (m : Msg) (now : Int) : stepB [Ses.v ⟨0, asn, id, pe, ho, re, rs, pas, rsd, oas, oh, oid, ors, ord, hold, ex, al, ret⟩, evV 1 m, .int .i64 now] [] = stepW ⟨0, asn, id, pe, ho, re, rs, pas, rsd, oas, oh, oid, ors, ord, hold, ex, al, ret⟩ 1 m now := by kernel_rfl
theorem step_0_2 (asn id pe ho re rs : Int) (pas rsd : Bool) (oas oh oid ors : Int) (ord : Bool) (hold ex al ret : Int) (m : Msg) (now : Int) : stepB [Ses.v ⟨0, asn, id, pe, ho, re, rs, pas, rsd, oas, oh, oid, ors, ord, hold, ex, al, ret⟩, evV 2 m, .int .i64 now] [] = stepW ⟨0, asn, id, pe, ho, re, rs, pas, rsd, oas, oh, oid, ors, ord, hold, ex, al, ret⟩ 2 m now := by kernel_rfl
theorem step_0_3 (asn id pe ho re rs : Int) (pas rsd : Bool) (oas oh oid ors : Int) (ord : Bool) (hold ex al ret : Int) (m : Msg) (now : Int) : stepB [Ses.v ⟨0, asn, id, pe, ho, re, rs, pas, rsd, oas, oh, oid, ors, ord, hold, ex, al, ret⟩, evV 3 m, .int .i64 now] [] = stepW ⟨0, asn, id, pe, ho, re, rs, pas, rsd, oas, oh, oid, ors, ord, hold, ex, al, ret⟩ 3 m now := by kernel_rfl
theorem step_0_4 (asn id pe ho re rs : Int) (pas rsd : Bool) (oas oh oid ors : Int) (ord : Bool) (hold ex al ret : Int) (m : Msg) (now : Int) : stepB [Ses.v ⟨0, asn, id, pe, ho, re, rs, pas, rsd, oas, oh, oid, ors, ord, hold, ex, al, ret⟩, evV 4 m, .int .i64 now] [] = stepW ⟨0, asn, id, pe, ho, re, rs, pas, rsd, oas, oh, oid, ors, ord, hold, ex, al, ret⟩ 4 m now := by kernel_rfl
theorem step_0_5 (asn id pe ho re rs : Int) (pas rsd : Bool) (oas oh oid ors : Int) (ord : Bool) (hold ex al ret : Int) (m : Msg) (now : Int) : stepB [Ses.v ⟨0, asn, id, pe, ho, re, rs, pas, rsd, oas, oh, oid, ors, ord, hold, ex, al, ret⟩, evV 5 m, .int .i64 now] [] = stepW ⟨0, asn, id, pe, ho, re, rs, pas, rsd, oas, oh, oid, ors, ord, hold, ex, al, ret⟩ 5 m now := by kernel_rfl
theorem step_0_6 (asn id pe ho re rs : Int) (pas rsd : Bool) (oas oh oid ors : Int) (ord : Bool) (hold ex al ret : Int) (m : Msg) (now : Int) : stepB [Ses.v ⟨0, asn, id, pe, ho, re, rs, pas, rsd, oas, oh, oid, ors, ord, hold, ex, al, ret⟩, evV 6 m, .int .i64 now] [] = stepW ⟨0, asn, id, pe, ho, re, rs, pas, rsd, oas, oh, oid, ors, ord, hold, ex, al, ret⟩ 6 m now := by kernel_rfl
theorem step_0_7 (asn id pe ho re rs : Int) (pas rsd : Bool) (oas oh oid ors : Int) (ord : Bool) (hold ex al ret : Int) (m : Msg) (now : Int) : stepB [Ses.v ⟨0, asn, id, pe, ho, re, rs, pas, rsd, oas, oh, oid, ors, ord, hold, ex, al, ret⟩, evV 7 m, .int .i64 now] [] = stepW ⟨0, asn, id, pe, ho, re, rs, pas, rsd, oas, oh, oid, ors, ord, hold, ex, al, ret⟩ 7 m now := by kernel_rfl
theorem step_1_1 (asn id pe ho re rs : Int) (pas rsd : Bool) (oas oh oid ors : Int) (ord : Bool) (hold ex al ret : Int) (m : Msg) (now : Int) : stepB [Ses.v ⟨1, asn, id, pe, ho, re, rs, pas, rsd, oas, oh, oid, ors, ord, hold, ex, al, ret⟩, evV 1 m, .int .i64 now] [] = stepW ⟨1, asn, id, pe, ho, re, rs, pas, rsd, oas, oh, oid, ors, ord, hold, ex, al, ret⟩ 1 m now := by kernel_rfl
theorem step_1_2 (asn id pe ho re rs : Int) (pas rsd : Bool) (oas oh oid ors : Int) (ord : Bool) (hold ex al ret : Int) (m : Msg) (now : Int) : stepB [Ses.v ⟨1, asn, id, pe, ho, re, rs, pas, rsd, oas, oh, oid, ors, ord, hold, ex, al, ret⟩, evV 2 m, .int .i64 now] [] = stepW ⟨1, asn, id, pe, ho, re, rs, pas, rsd, oas, oh, oid, ors, ord, hold, ex, al, ret⟩ 2 m now := by kernel_rfl
theorem step_1_3 (asn id pe ho re rs : Int) (pas rsd : Bool) (oas oh oid ors : Int) (ord : Bool) (hold ex al ret : Int) (m : Msg) (now : Int) : stepB [Ses.v ⟨1, asn, id, pe, ho, re, rs, pas, rsd, oas, oh, oid, ors, ord, hold, ex, al, ret⟩, evV 3 m, .int .i64 now] [] = stepW ⟨1, asn, id, pe, ho, re, rs, pas, rsd, oas, oh, oid, ors, ord, hold, ex, al, ret⟩ 3 m now := by kernel_rfl
theorem step_1_4 (asn id pe ho re rs : Int) (pas rsd : Bool) (oas oh oid ors : Int) (ord : Bool) (hold ex al ret : Int) (m : Msg) (now : Int) : stepB [Ses.v ⟨1, asn, id, pe, ho, re, rs, pas, rsd, oas, oh, oid, ors, ord, hold, ex, al, ret⟩, evV 4 m, .int .i64 now] [] = stepW ⟨1, asn, id, pe, ho, re, rs, pas, rsd, oas, oh, oid, ors, ord, hold, ex, al, ret⟩ 4 m now := by kernel_rfl
theorem step_1_5 (asn id pe ho re rs : Int) (pas rsd : Bool) (oas oh oid ors : Int) (ord : Bool) (hold ex al ret : Int) (m : Msg) (now : Int) : stepB [Ses.v ⟨1, asn, id, pe, ho, re, rs, pas, rsd, oas, oh, oid, ors, ord, hold, ex, al, ret⟩, evV 5 m, .int .i64 now] [] = stepW ⟨1, asn, id, pe, ho, re, rs, pas, rsd, oas, oh, oid, ors, ord, hold, ex, al, ret⟩ 5 m now := by kernel_rfl
theorem step_1_6 (asn id pe ho re rs : Int) (pas rsd : Bool) (oas oh oid ors : Int) (ord : Bool) (hold ex al ret : Int) (m : Msg) (now : Int) : stepB [Ses.v ⟨1, asn, id, pe, ho, re, rs, pas, rsd, oas, oh, oid, ors, ord, hold, ex, al, ret⟩, evV 6 m, .int .i64 now] [] = stepW ⟨1, asn, id, pe, ho, re, rs, pas, rsd, oas, oh, oid, ors, ord, hold, ex, al, ret⟩ 6 m now := by kernel_rfl
theorem step_1_7 (asn id pe ho re rs : Int) (pas rsd : Bool) (oas oh oid ors : Int) (ord : Bool) (hold ex al ret : Int) (m : Msg) (now : Int) : stepB [Ses.v ⟨1, asn, id, pe, ho, re, rs, pas, rsd, oas, oh, oid, ors, ord, hold, ex, al, ret⟩, evV 7 m, .int .i64 now] [] = stepW ⟨1, asn, id, pe, ho, re, rs, pas, rsd, oas, oh, oid, ors, ord, hold, ex, al, ret⟩ 7 m now := by kernel_rfl
theorem step_2_1 (asn id pe ho re rs : Int) (pas rsd : Bool) (oas oh oid ors : Int) (ord : Bool) (hold ex al ret : Int) (m : Msg) (now : Int) : stepB [Ses.v ⟨2, asn, id, pe, ho, re, rs, pas, rsd, oas, oh, oid, ors, ord, hold, ex, al, ret⟩, evV 1 m, .int .i64 now] [] = stepW ⟨2, asn, id, pe, ho, re, rs, pas, rsd, oas, oh, oid, ors, ord, hold, ex, al, ret⟩ 1 m now := by kernel_rfl
theorem step_2_2 (asn id pe ho re rs : Int) (pas rsd : Bool) (oas oh oid ors : Int) (ord : Bool) (hold ex al ret : Int) (m : Msg) (now : Int) : stepB [Ses.v ⟨2, asn, id, pe, ho, re, rs, pas, rsd, oas, oh, oid, ors, ord, hold, ex, al, ret⟩, evV 2 m, .int .i64 now] [] = stepW ⟨2, asn, id, pe, ho, re, rs, pas, rsd, oas, oh, oid, ors, ord, hold, ex, al, ret⟩ 2 m now := by kernel_rfl
theorem step_2_3 (asn id pe ho re rs : Int) (pas rsd : Bool) (oas oh oid ors : Int) (ord : Bool) (hold ex al ret : Int) (m : Msg) (now : Int) : stepB [Ses.v ⟨2, asn, id, pe, ho, re, rs, pas, rsd, oas, oh, oid, ors, ord, hold, ex, al, ret⟩, evV 3 m, .int .i64 now] [] = stepW ⟨2, asn, id, pe, ho, re, rs, pas, rsd, oas, oh, oid, ors, ord, hold, ex, al, ret⟩ 3 m now := by kernel_rfl
theorem step_2_4 (asn id pe ho re rs : Int) (pas rsd : Bool) (oas oh oid ors : Int) (ord : Bool) (hold ex al ret : Int) (m : Msg) (now : Int) : stepB [Ses.v ⟨2, asn, id, pe, ho, re, rs, pas, rsd, oas, oh, oid, ors, ord, hold, ex, al, ret⟩, evV 4 m, .int .i64 now] [] = stepW ⟨2, asn, id, pe, ho, re, rs, pas, rsd, oas, oh, oid, ors, ord, hold, ex, al, ret⟩ 4 m now := by kernel_rfl
theorem step_2_5 (asn id pe ho re rs : Int) (pas rsd : Bool) (oas oh oid ors : Int) (ord : Bool) (hold ex al ret : Int) (m : Msg) (now : Int) : stepB [Ses.v ⟨2, asn, id, pe, ho, re, rs, pas, rsd, oas, oh, oid, ors, ord, hold, ex, al, ret⟩, evV 5 m, .int .i64 now] [] = stepW ⟨2, asn, id, pe, ho, re, rs, pas, rsd, oas, oh, oid, ors, ord, hold, ex, al, ret⟩ 5 m now := by kernel_rfl
theorem step_2_6 (asn id pe ho re rs : Int) (pas rsd : Bool) (oas oh oid ors : Int) (ord : Bool) (hold ex al ret : Int) (m : Msg) (now : Int) : stepB [Ses.v ⟨2, asn, id, pe, ho, re, rs, pas, rsd, oas, oh, oid, ors, ord, hold, ex, al, ret⟩, evV 6 m, .int .i64 now] [] = stepW ⟨2, asn, id, pe, ho, re, rs, pas, rsd, oas, oh, oid, ors, ord, hold, ex, al, ret⟩ 6 m now := by kernel_rfl
theorem step_2_7 (asn id pe ho re rs : Int) (pas rsd : Bool) (oas oh oid ors : Int) (ord : Bool) (hold ex al ret : Int) (m : Msg) (now : Int) : stepB [Ses.v ⟨2, asn, id, pe, ho, re, rs, pas, rsd, oas, oh, oid, ors, ord, hold, ex, al, ret⟩, evV 7 m, .int .i64 now] [] = stepW ⟨2, asn, id, pe, ho, re, rs, pas, rsd, oas, oh, oid, ors, ord, hold, ex, al, ret⟩ 7 m now := by kernel_rfl
theorem step_3_1 (asn id pe ho re rs : Int) (pas rsd : Bool) (oas oh oid ors : Int) (ord : Bool) (hold ex al ret : Int) (m : Msg) (now : Int) : stepB [Ses.v ⟨3, asn, id, pe, ho, re, rs, pas, rsd, oas, oh, oid, ors, ord, hold, ex, al, ret⟩, evV 1 m, .int .i64 now] [] = stepW ⟨3, asn, id, pe, ho, re, rs, pas, rsd, oas, oh, oid, ors, ord, hold, ex, al, ret⟩ 1 m now := by kernel_rfl
theorem step_3_2 (asn id pe ho re rs : Int) (pas rsd : Bool) (oas oh oid ors : Int) (ord : Bool) (hold ex al ret : Int) (m : Msg) (now : Int) : stepB [Ses.v ⟨3, asn, id, pe, ho, re, rs, pas, rsd, oas, oh, oid, ors, ord, hold, ex, al, ret⟩, evV 2 m, .int .i64 now] [] = stepW ⟨3, asn, id, pe, ho, re, rs, pas, rsd, oas, oh, oid, ors, ord, hold, ex, al, ret⟩ 2 m now := by kernel_rfl
theorem step_3_3 (asn id pe ho re rs : Int) (pas rsd : Bool) (oas oh oid ors : Int) (ord : Bool) (hold ex al ret : Int) (m : Msg) (now : Int) : stepB [Ses.v ⟨3, asn, id, pe, ho, re, rs, pas, rsd, oas, oh, oid, ors, ord, hold, ex, al, ret⟩, evV 3 m, .int .i64 now] [] = stepW ⟨3, asn, id, pe, ho, re, rs, pas, rsd, oas, oh, oid, ors, ord, hold, ex, al, ret⟩ 3 m now := by kernel_rfl
theorem step_3_4 (asn id pe ho re rs : Int) (pas rsd : Bool) (oas oh oid ors : Int) (ord : Bool) (hold ex al ret : Int) (m : Msg) (now : Int) : stepB [Ses.v ⟨3, asn, id, pe, ho, re, rs, pas, rsd, oas, oh, oid, ors, ord, hold, ex, al, ret⟩, evV 4 m, .int .i64 now] [] = stepW ⟨3, asn, id, pe, ho, re, rs, pas, rsd, oas, oh, oid, ors, ord, hold, ex, al, ret⟩ 4 m now := by kernel_rfl
theorem step_3_5 (asn id pe ho re rs : Int) (pas rsd : Bool) (oas oh oid ors : Int) (ord : Bool) (hold ex al ret : Int) (m : Msg) (now : Int) : stepB [Ses.v ⟨3, asn, id, pe, ho, re, rs, pas, rsd, oas, oh, oid, ors, ord, hold, ex, al, ret⟩, evV 5 m, .int .i64 now] [] = stepW ⟨3, asn, id, pe, ho, re, rs, pas, rsd, oas, oh, oid, ors, ord, hold, ex, al, ret⟩ 5 m now := by kernel_rfl
theorem step_3_6 (asn id pe ho re rs : Int) (pas rsd : Bool) (oas oh oid ors : Int) (ord : Bool) (hold ex al ret : Int) (m : Msg) (now : Int) : stepB [Ses.v ⟨3, asn, id, pe, ho, re, rs, pas, rsd, oas, oh, oid, ors, ord, hold, ex, al, ret⟩, evV 6 m, .int .i64 now] [] = stepW ⟨3, asn, id, pe, ho, re, rs, pas, rsd, oas, oh, oid, ors, ord, hold, ex, al, ret⟩ 6 m now := by kernel_rfl
theorem step_3_7 (asn id pe ho re rs : Int) (pas rsd : Bool) (oas oh oid ors : Int) (ord : Bool) (hold ex al ret : Int) (m : Msg) (now : Int) : stepB [Ses.v ⟨3, asn, id, pe, ho, re, rs, pas, rsd, oas, oh, oid, ors, ord, hold, ex, al, ret⟩, evV 7 m, .int .i64 now] [] = stepW ⟨3, asn, id, pe, ho, re, rs, pas, rsd, oas, oh, oid, ors, ord, hold, ex, al, ret⟩ 7 m now := by kernel_rfl
theorem step_4_1 (asn id pe ho re rs : Int) (pas rsd : Bool) (oas oh oid ors : Int) (ord : Bool) (hold ex al ret : Int) (m : Msg) (now : Int) : stepB [Ses.v ⟨4, asn, id, pe, ho, re, rs, pas, rsd, oas, oh, oid, ors, ord, hold, ex, al, ret⟩, evV 1 m, .int .i64 now] [] = stepW ⟨4, asn, id, pe, ho, re, rs, pas, rsd, oas, oh, oid, ors, ord, hold, ex, al, ret⟩ 1 m now := by kernel_rfl
theorem step_4_2 (asn id pe ho re rs : Int) (pas rsd : Bool) (oas oh oid ors : Int) (ord : Bool) (hold ex al ret : Int) (m : Msg) (now : Int) : stepB [Ses.v ⟨4, asn, id, pe, ho, re, rs, pas, rsd, oas, oh, oid, ors, ord, hold, ex, al, ret⟩, evV 2 m, .int .i64 now] [] = stepW ⟨4, asn, id, pe, ho, re, rs, pas, rsd, oas, oh, oid, ors, ord, hold, ex, al, ret⟩ 2 m now := by kernel_rfl
theorem step_4_3 (asn id pe ho re rs : Int) (pas rsd : Bool) (oas oh oid ors : Int) (ord : Bool) (hold ex al ret : Int) (m : Msg) (now : Int) : stepB [Ses.v ⟨4, asn, id, pe, ho, re, rs, pas, rsd, oas, oh, oid, ors, ord, hold, ex, al, ret⟩, evV 3 m, .int .i64 now] [] = stepW ⟨4, asn, id, pe, ho, re, rs, pas, rsd, oas, oh, oid, ors, ord, hold, ex, al, ret⟩ 3 m now := by kernel_rfl
theorem step_4_4 (asn id pe ho re rs : Int) (pas rsd : Bool) (oas oh oid ors : Int) (ord : Bool) (hold ex al ret : Int) (m : Msg) (now : Int) : stepB [Ses.v ⟨4, asn, id, pe, ho, re, rs, pas, rsd, oas, oh, oid, ors, ord, hold, ex, al, ret⟩, evV 4 m, .int .i64 now] [] = stepW ⟨4, asn, id, pe, ho, re, rs, pas, rsd, oas, oh, oid, ors, ord, hold, ex, al, ret⟩ 4 m now := by kernel_rfl
theorem step_4_5 (asn id pe ho re rs : Int) (pas rsd : Bool) (oas oh oid ors : Int) (ord : Bool) (hold ex al ret : Int) (m : Msg) (now : Int) : stepB [Ses.v ⟨4, asn, id, pe, ho, re, rs, pas, rsd, oas, oh, oid, ors, ord, hold, ex, al, ret⟩, evV 5 m, .int .i64 now] [] = stepW ⟨4, asn, id, pe, ho, re, rs, pas, rsd, oas, oh, oid, ors, ord, hold, ex, al, ret⟩ 5 m now := by kernel_rfl
theorem step_4_6 (asn id pe ho re rs : Int) (pas rsd : Bool) (oas oh oid ors : Int) (ord : Bool) (hold ex al ret : Int) (m : Msg) (now : Int) : stepB [Ses.v ⟨4, asn, id, pe, ho, re, rs, pas, rsd, oas, oh, oid, ors, ord, hold, ex, al, ret⟩, evV 6 m, .int .i64 now] [] = stepW ⟨4, asn, id, pe, ho, re, rs, pas, rsd, oas, oh, oid, ors, ord, hold, ex, al, ret⟩ 6 m now := by kernel_rfl
theorem step_4_7 (asn id pe ho re rs : Int) (pas rsd : Bool) (oas oh oid ors : Int) (ord : Bool) (hold ex al ret : Int) (m : Msg) (now : Int) : stepB [Ses.v ⟨4, asn, id, pe, ho, re, rs, pas, rsd, oas, oh, oid, ors, ord, hold, ex, al, ret⟩, evV 7 m, .int .i64 now] [] = stepW ⟨4, asn, id, pe, ho, re, rs, pas, rsd, oas, oh, oid, ors, ord, hold, ex, al, ret⟩ 7 m now := by kernel_rfl
end Go.Proofs.Ytbeolnccdhjjeaa
/- Sessions: what is known of the step. -/
namespace Go.Proofs.Ytbeolnccdhjjeaa
open Go.Am
set_option maxRecDepth 100000

theorem hold_k : Known Try.prog 29 hold_s := known_of_bodyS noNumTry mixTry ok0 Try.func29 rfl (by
  intro args H v ups h
  unfold hold_s at h
  split at h
  · rename_i n
    have e : bodyS Try.prog (tbl []) Try.f29 [.int .i64 n] [] = .ret (.bool (holdB n)) [] := by kernel_rfl
    rw [e, ← h]
  · cases h)
def timer_s : CSumm
  | [.int .i64 n], [] => .ret (.bool (timerB n)) []
  | _, _ => .fail
theorem timer_k : Known Try.prog 30 timer_s := known_of_bodyS noNumTry mixTry ok0 Try.func30 rfl (by
  intro args H v ups h
  unfold timer_s at h
  split at h
  · rename_i n
    have e : bodyS Try.prog (tbl []) Try.f30 [.int .i64 n] [] = .ret (.bool (timerB n)) [] := by kernel_rfl
    rw [e, ← h]
  · cases h)
abbrev κv := tbl [(29, hold_s), (30, timer_s)]
theorem okv : KOk Try.prog κv := tbl_cons hold_k (tbl_cons timer_k ok0)
noncomputable abbrev validO : CSumm := bodyC Try.prog (openT Try.prog κv 300 5) (fun g => inl κv g && hasBody Try.prog g) true 300 Try.f13
def and2 (a b : Bool) : Bool := bif a then b else false
theorem and2_eq (a b : Bool) : and2 a b = (a && b) := by cases a <;> rfl
theorem valid_t (ph asn id pe ho re rs : Int) (pas rsd : Bool) (oas oh oid ors : Int) (ord : Bool) (hold ex al ret : Int) : validO [Ses.v ⟨ph, asn, id, pe, ho, re, rs, pas, rsd, oas, oh, oid, ors, ord, hold, ex, al, ret⟩] [] =
    .ret (.bool (and2 (and2 (and2 (and2 (and2 (and2 (and2 (and2 (and2 (and2 (and2 (and2 (and2 (id != 0) (pe != 0)) (id != pe)) (holdB ho)) (decide (re ≥ 1))) (decide (re ≤ 65535))) (decide (rs ≥ 0))) (decide (rs ≤ 4095))) (decide (ph ≥ 0))) (decide (ph ≤ 4))) (holdB hold)) (timerB ex)) (timerB al)) (timerB ret))) [] := by kernel_rfl
def valid_s : CSumm
  | [.agg [.int .i64 ph, .int .u32 asn, .int .u32 id, .int .u32 pe, .int .i64 ho, .int .i64 re, .int .i64 rs, .bool pas, .bool rsd, .int .u32 oas, .int .i64 oh, .int .u32 oid, .int .i64 ors, .bool ord, .int .i64 hold, .int .i64 ex, .int .i64 al, .int .i64 ret]], [] =>
    .ret (.bool (Ses.ok ⟨ph, asn, id, pe, ho, re, rs, pas, rsd, oas, oh, oid, ors, ord, hold, ex, al, ret⟩)) []
  | _, _ => .fail
theorem openKnown {T : Nat → Option CSumm} (hT : KOk Try.prog T) {f : Nat} {fn : Func} (hf : Try.prog.funcs[f]? = some fn) (hb : fn.body.isNone = false) : Known Try.prog f (bodyC Try.prog (openT Try.prog T 300 5) (fun g => inl T g && hasBody Try.prog g) true 300 fn) :=
  known_of_bodyC noNumTry mixTry (openT_ok noNumTry mixTry hT 300 5) hf hb (fun _ _ _ _ h => h)
theorem valid_k : Known Try.prog 13 valid_s := (openKnown okv Try.func13 rfl).weak (by
  intro args H v ups h
  unfold valid_s at h
  split at h
  · rw [show bodyC Try.prog (openT Try.prog κv 300 5) (fun g => inl κv g && hasBody Try.prog g) true 300 Try.f13 = validO from rfl, valid_t, ← h]
    simp only [and2_eq, Ses.ok, soundB]
  · cases h)
theorem valid_yes_k : Known Try.prog 13 valid_yes := valid_k.weak (by
  intro args H v ups h
  unfold valid_yes at h
  split at h
  · rename_i ph asn id pe ho re rs pas rsd oas oh oid ors ord hold ex al ret
    unfold valid_s
    simp only [crun] at h ⊢
    split at h
    · rename_i hh; rw [hh]; exact h
    · cases h
  · cases h)
def valid_no : CSumm
  | [.agg [.int .i64 ph, .int .u32 asn, .int .u32 id, .int .u32 pe, .int .i64 ho, .int .i64 re, .int .i64 rs, .bool pas, .bool rsd, .int .u32 oas, .int .i64 oh, .int .u32 oid, .int .i64 ors, .bool ord, .int .i64 hold, .int .i64 ex, .int .i64 al, .int .i64 ret]], [] =>
    .ite (Ses.ok ⟨ph, asn, id, pe, ho, re, rs, pas, rsd, oas, oh, oid, ors, ord, hold, ex, al, ret⟩) .fail (.ret (.bool false) [])
  | _, _ => .fail
theorem valid_no_k : Known Try.prog 13 valid_no := valid_k.weak (by
  intro args H v ups h
  unfold valid_no at h
  split at h
  · rename_i ph asn id pe ho re rs pas rsd oas oh oid ors ord hold ex al ret
    unfold valid_s
    simp only [crun] at h ⊢
    split at h
    · cases h
    · rename_i hh; rw [Bool.not_eq_true] at hh; rw [hh]; exact h
  · cases h)
theorem known_yes_k : Known Try.prog 33 known_yes := known_k.weak (by
  intro args H v ups h
  unfold known_yes at h
  split at h
  · unfold known_s
    simp only [crun] at h ⊢
    split at h
    · rename_i hh; rw [hh]; exact h
    · cases h
  · cases h)
def known_no : CSumm
  | [.int .i64 k], [] => .ite (knownB k) .fail (.ret (.bool false) [])
  | _, _ => .fail
theorem known_no_k : Known Try.prog 33 known_no := known_k.weak (by
  intro args H v ups h
  unfold known_no at h
  split at h
  · unfold known_s
    simp only [crun] at h ⊢
    split at h
    · cases h
    · rename_i hh; rw [Bool.not_eq_true] at hh; rw [hh]; exact h
  · cases h)
theorem oks : KOk Try.prog κs := tbl_cons valid_yes_k (tbl_cons known_yes_k (tbl_cons hold_k (tbl_cons cl78_k (tbl_cons cl79_k (tbl_cons cl80_k (tbl_cons cl81_k ok0))))))
abbrev κs1 := tbl [(13, valid_no)]
abbrev κs2 := tbl [(13, valid_yes), (33, known_no)]
theorem oks1 : KOk Try.prog κs1 := tbl_cons valid_no_k ok0
theorem oks2 : KOk Try.prog κs2 := tbl_cons valid_yes_k (tbl_cons known_no_k ok0)
noncomputable abbrev stepB1 : CSumm := bodyC Try.prog (openT Try.prog κs1 300 5) (fun g => inl κs1 g && hasBody Try.prog g) true 300 Try.f15
noncomputable abbrev stepB2 : CSumm := bodyC Try.prog (openT Try.prog κs2 300 5) (fun g => inl κs2 g && hasBody Try.prog g) true 300 Try.f15
theorem step_no1 (s : Ses) (k : Int) (m : Msg) (now : Int) : stepB1 [s.v, evV k m, .int .i64 now] [] = bif s.ok then .fail else stepT s [] := by kernel_rfl
theorem step_no2 (s : Ses) (k : Int) (m : Msg) (now : Int) : stepB2 [s.v, evV k m, .int .i64 now] [] = bif s.ok then bif decide (now < 0) then stepT s [] else bif decide (now > 1099511627776) then stepT s [] else bif knownB k then .fail else stepT s [] else .fail := by kernel_rfl
theorem stepB_k : Known Try.prog 15 stepB := openKnown oks Try.func15 rfl
theorem stepB1_k : Known Try.prog 15 stepB1 := openKnown oks1 Try.func15 rfl
theorem stepB2_k : Known Try.prog 15 stepB2 := openKnown oks2 Try.func15 rfl
/-- Three that are known: whichever. -/
theorem known_or {f : Nat} {a b c s : CSumm} (ha : Known Try.prog f a) (hb : Known Try.prog f b) (hc : Known Try.prog f c) (h : ∀ args H v ups, crun (s args H) = some (v, ups) → crun (a args H) = some (v, ups) ∨ crun (b args H) = some (v, ups) ∨ crun (c args H) = some (v, ups)) : Known Try.prog f s :=
  ⟨ha.fn, fun args H v ups hr => (h args H v ups hr).elim (fun h => ha.ok args H v ups h) (fun h => h.elim (fun h => hb.ok args H v ups h) (fun h => hc.ok args H v ups h))⟩

/-- Does the step look at the event? -/
def goesB (s : Ses) (k now : Int) : Bool := s.ok && decide (0 ≤ now) && decide (now ≤ 1099511627776) && knownB k
noncomputable def stepP (s : Ses) (k : Int) (m : Msg) (now : Int) : Ses × List Act := bif goesB s k now then stepG cond (s, []) s k m now Prod.mk else (s, [])
def resT (p : Ses × List Act) : CTree := .ite p.2.isEmpty (.ret (.tup [p.1.v, .nils]) []) (.ret (.tup [p.1.v, .qs 0 27 0 p.2.length]) [(0, some (.seq 57 (p.2.map Act.v)))])
noncomputable def step_s : CSumm
  | [.agg [.int .i64 ph, .int .u32 asn, .int .u32 id, .int .u32 pe, .int .i64 ho, .int .i64 re, .int .i64 rs, .bool pas, .bool rsd, .int .u32 oas, .int .i64 oh, .int .u32 oid, .int .i64 ors, .bool ord, .int .i64 hold, .int .i64 ex, .int .i64 al, .int .i64 ret],
     .agg [.int .i64 k, .int .i64 kind, .int .u32 mas, .int .i64 mh, .int .u32 mid, .int .i64 mrs, .bool mrd, .int .i64 code, .int .i64 sub, .int .i64 ori, .psl 22 path, .int .u32 nx, .bool hm, .int .u32 med, .bool hp, .int .u32 prf, .bool hor, .int .u32 orr, .psl 23 cl, .psl 119 cm, .int .i64 tk, .int .u32 tl, .int .u32 tr, .int .u32 tg, .psl 103 reach, .psl 103 un],
     .int .i64 now], [] =>
    let m : Msg := ⟨kind, mas, mh, mid, mrs, mrd, code, sub, ori, path, nx, hm, med, hp, prf, hor, orr, cl, cm, tk, tl, tr, tg, reach, un⟩
    .ite (lightB m) (resT (stepP ⟨ph, asn, id, pe, ho, re, rs, pas, rsd, oas, oh, oid, ors, ord, hold, ex, al, ret⟩ k m now)) .fail
  | _, _ => .fail

theorem crun_stepT (p : Ses × List Act) : crun (resT p) = crun (stepT p.1 p.2) := by
  obtain ⟨s, l⟩ := p
  cases l <;> rfl
theorem stepG_nat {R : Type} (fl : R) (f : Ses × List Act → R) (h' : ∀ (b : Bool) (x y : Ses × List Act), f (bif b then x else y) = bif b then f x else f y)
    (s : Ses) (k : Int) (m : Msg) (now : Int) (hl : lightB m = true) : stepG cond fl s k m now (fun s l => f (s, l)) = f (stepG cond (s, []) s k m now Prod.mk) := by
  simp only [lightB, Bool.and_eq_true] at hl
  simp only [stepG, laterG, failG, leaveG, setRetryG, setHoldG, setAliveG, h', hl, cond_true]
theorem crun_ite (b : Bool) (x y : CTree) : crun (.ite b x y) = bif b then crun x else crun y := by cases b <;> rfl
theorem crun_cond (b : Bool) (x y : CTree) : crun (bif b then x else y) = bif b then crun x else crun y := by cases b <;> rfl
theorem stepG_ite (s : Ses) (k : Int) (m : Msg) (now : Int) (κ : Ses → List Act → CTree) : crun (stepG CTree.ite .fail s k m now κ) = crun (stepG cond .fail s k m now κ) := by
  simp only [stepG, laterG, failG, leaveG, setRetryG, setHoldG, setAliveG, crun_ite, crun_cond]
theorem stepW_eq (s : Ses) (k : Int) (m : Msg) (now : Int) (hl : lightB m = true) (hg : goesB s k now = true) : crun (stepW s k m now) = crun (resT (stepP s k m now)) := by
  unfold stepP
  rw [hg]
  simp only [goesB, Bool.and_eq_true, decide_eq_true_eq] at hg
  obtain ⟨⟨⟨h1, h2⟩, h3⟩, h4⟩ := hg
  unfold stepW
  rw [h1, h4, show decide (now < 0) = false by simp; omega, show decide (now > 1099511627776) = false by simp; omega]
  simp only [cond_true, cond_false]
  rw [crun_stepT]
  have e := stepG_nat (R := CTree) .fail (fun p => stepT p.1 p.2) (fun b _ _ => by cases b <;> rfl) s k m now hl
  simp only at e
  exact congrArg crun e
theorem stepP_no {s : Ses} {k : Int} {m : Msg} {now : Int} (hg : goesB s k now = false) : stepP s k m now = (s, []) := by
  unfold stepP; rw [hg]; rfl
theorem step_lit (s : Ses) (k : Int) (m : Msg) (now : Int) (hs : s.ok = true) (hk : knownB k = true) : stepB [s.v, evV k m, .int .i64 now] [] = stepW s k m now := by
  obtain ⟨ph, asn, id, pe, ho, re, rs, pas, rsd, oas, oh, oid, ors, ord, hold, ex, al, ret⟩ := s
  have hp : ph = 0 ∨ ph = 1 ∨ ph = 2 ∨ ph = 3 ∨ ph = 4 := by
    simp only [Ses.ok, Bool.and_eq_true, decide_eq_true_eq] at hs
    omega
  have hk' : k = 1 ∨ k = 2 ∨ k = 3 ∨ k = 4 ∨ k = 5 ∨ k = 6 ∨ k = 7 := by
    simp only [knownB, Bool.or_eq_true, beq_iff_eq] at hk
    omega
  rcases hp with rfl | rfl | rfl | rfl | rfl <;> rcases hk' with rfl | rfl | rfl | rfl | rfl | rfl | rfl
  · exact step_0_1 ..
  · exact step_0_2 ..
  · exact step_0_3 ..
  · exact step_0_4 ..
  · exact step_0_5 ..
  · exact step_0_6 ..
  · exact step_0_7 ..
  · exact step_1_1 ..
  · exact step_1_2 ..
  · exact step_1_3 ..
  · exact step_1_4 ..
  · exact step_1_5 ..
  · exact step_1_6 ..
  · exact step_1_7 ..
  · exact step_2_1 ..
  · exact step_2_2 ..
  · exact step_2_3 ..
  · exact step_2_4 ..
  · exact step_2_5 ..
  · exact step_2_6 ..
  · exact step_2_7 ..
  · exact step_3_1 ..
  · exact step_3_2 ..
  · exact step_3_3 ..
  · exact step_3_4 ..
  · exact step_3_5 ..
  · exact step_3_6 ..
  · exact step_3_7 ..
  · exact step_4_1 ..
  · exact step_4_2 ..
  · exact step_4_3 ..
  · exact step_4_4 ..
  · exact step_4_5 ..
  · exact step_4_6 ..
  · exact step_4_7 ..
theorem step_k : Known Try.prog 15 step_s := known_or stepB1_k stepB2_k stepB_k (by
  intro args H v ups h
  unfold step_s at h
  split at h
  · rename_i ph asn id pe ho re rs pas rsd oas oh oid ors ord hold ex al ret k kind mas mh mid mrs mrd code sub ori path nx hm med hp prf hor orr cl cm tk tl tr tg reach un now
    simp only [crun] at h
    split at h
    · rename_i hl
      cases hg : goesB ⟨ph, asn, id, pe, ho, re, rs, pas, rsd, oas, oh, oid, ors, ord, hold, ex, al, ret⟩ k now with
      | true =>
        right; right
        have hg' := hg
        simp only [goesB, Bool.and_eq_true] at hg'
        rw [← stepW_eq _ _ _ _ hl hg] at h
        rw [← h]
        exact congrArg crun (step_lit ⟨ph, asn, id, pe, ho, re, rs, pas, rsd, oas, oh, oid, ors, ord, hold, ex, al, ret⟩ k ⟨kind, mas, mh, mid, mrs, mrd, code, sub, ori, path, nx, hm, med, hp, prf, hor, orr, cl, cm, tk, tl, tr, tg, reach, un⟩ now hg'.1.1.1 hg'.2)
      | false =>
        rw [stepP_no hg, crun_stepT] at h
        have e1 := step_no1 ⟨ph, asn, id, pe, ho, re, rs, pas, rsd, oas, oh, oid, ors, ord, hold, ex, al, ret⟩ k ⟨kind, mas, mh, mid, mrs, mrd, code, sub, ori, path, nx, hm, med, hp, prf, hor, orr, cl, cm, tk, tl, tr, tg, reach, un⟩ now
        have e2 := step_no2 ⟨ph, asn, id, pe, ho, re, rs, pas, rsd, oas, oh, oid, ors, ord, hold, ex, al, ret⟩ k ⟨kind, mas, mh, mid, mrs, mrd, code, sub, ori, path, nx, hm, med, hp, prf, hor, orr, cl, cm, tk, tl, tr, tg, reach, un⟩ now
        cases ho : Ses.ok ⟨ph, asn, id, pe, ho, re, rs, pas, rsd, oas, oh, oid, ors, ord, hold, ex, al, ret⟩ with
        | false =>
          left
          rw [ho] at e1
          rw [← h]
          exact congrArg crun e1
        | true =>
          right; left
          rw [ho] at e2
          rw [← h]
          refine (congrArg crun e2).trans ?_
          simp only [goesB, ho, Bool.true_and] at hg
          simp only [cond_true]
          cases h1 : decide (now < 0) with
          | true => rfl
          | false =>
            cases h2 : decide (now > 1099511627776) with
            | true => rfl
            | false =>
              have : knownB k = false := by
                simp only [decide_eq_false_iff_not] at h1 h2
                cases hk : knownB k with
                | false => rfl
                | true =>
                  rw [hk, Bool.and_true, Bool.and_eq_false_iff] at hg
                  simp only [decide_eq_false_iff_not] at hg
                  omega
              rw [this]
              rfl
    · cases h
  · cases h)
end Go.Proofs.Ytbeolnccdhjjeaa
/- Sessions: the step with its tests told apart; an established session. -/
namespace Go.Proofs.Ytbeolnccdhjjeaa
open Go.Am
set_option maxRecDepth 100000
/-- Where the event is looked at. -/
def step_i : CSumm
  | [.agg [.int .i64 ph, .int .u32 asn, .int .u32 id, .int .u32 pe, .int .i64 ho, .int .i64 re, .int .i64 rs, .bool pas, .bool rsd, .int .u32 oas, .int .i64 oh, .int .u32 oid, .int .i64 ors, .bool ord, .int .i64 hold, .int .i64 ex, .int .i64 al, .int .i64 ret],
     .agg [.int .i64 k, .int .i64 kind, .int .u32 mas, .int .i64 mh, .int .u32 mid, .int .i64 mrs, .bool mrd, .int .i64 code, .int .i64 sub, .int .i64 ori, .psl 22 path, .int .u32 nx, .bool hm, .int .u32 med, .bool hp, .int .u32 prf, .bool hor, .int .u32 orr, .psl 23 cl, .psl 119 cm, .int .i64 tk, .int .u32 tl, .int .u32 tr, .int .u32 tg, .psl 103 reach, .psl 103 un],
     .int .i64 now], [] =>
    let m : Msg := ⟨kind, mas, mh, mid, mrs, mrd, code, sub, ori, path, nx, hm, med, hp, prf, hor, orr, cl, cm, tk, tl, tr, tg, reach, un⟩
    let s : Ses := ⟨ph, asn, id, pe, ho, re, rs, pas, rsd, oas, oh, oid, ors, ord, hold, ex, al, ret⟩
    .ite (lightB m) (.ite (goesB s k now) (stepG .ite .fail s k m now stepT) .fail) .fail
  | _, _ => .fail
theorem step_i_k : Known Try.prog 15 step_i := step_k.weak (by
  intro args H v ups h
  unfold step_i at h
  split at h
  · rename_i ph asn id pe ho re rs pas rsd oas oh oid ors ord hold ex al ret k kind mas mh mid mrs mrd code sub ori path nx hm med hp prf hor orr cl cm tk tl tr tg reach un now
    simp only [crun_ite] at h
    unfold step_s
    simp only [crun_ite]
    cases hl : lightB ⟨kind, mas, mh, mid, mrs, mrd, code, sub, ori, path, nx, hm, med, hp, prf, hor, orr, cl, cm, tk, tl, tr, tg, reach, un⟩ with
    | false => rw [hl] at h; cases h
    | true =>
      rw [hl] at h
      simp only [cond_true] at h ⊢
      cases hg : goesB ⟨ph, asn, id, pe, ho, re, rs, pas, rsd, oas, oh, oid, ors, ord, hold, ex, al, ret⟩ k now with
      | false => rw [hg] at h; cases h
      | true =>
        rw [hg] at h
        simp only [cond_true] at h
        rw [stepG_ite] at h
        rw [← h, crun_stepT]
        unfold stepP
        rw [hg]
        have e := stepG_nat (R := CTree) .fail (fun p => stepT p.1 p.2) (fun b _ _ => by cases b <;> rfl) ⟨ph, asn, id, pe, ho, re, rs, pas, rsd, oas, oh, oid, ors, ord, hold, ex, al, ret⟩ k ⟨kind, mas, mh, mid, mrs, mrd, code, sub, ori, path, nx, hm, med, hp, prf, hor, orr, cl, cm, tk, tl, tr, tg, reach, un⟩ now hl
        simp only at e
        simp only [cond_true]
        exact (congrArg crun e).symm
  · cases h)
abbrev evCo : List (Option TypeId) := [none, none, none, none, none, none, none, none, none, none, some 22, none, none, none, none, none, none, none, some 23, some 119, none, none, none, none, some 103, some 103]
abbrev stepC (s : CSumm) : CSumm := coS [[], evCo, []] s
theorem stepI_k : Known Try.prog 15 (stepC step_i) := step_i_k.co _
theorem stepS_k : Known Try.prog 15 (stepC step_s) := step_k.co _

abbrev κi := tbl [(15, stepC step_i), (29, hold_s)]
theorem oki : KOk Try.prog κi := tbl_cons stepI_k (tbl_cons hold_k ok0)
noncomputable abbrev estO : CSumm := bodyC Try.prog (openT Try.prog κi 300 5) (fun g => inl κi g && hasBody Try.prog g) true 300 Try.f23
abbrev cfgS (ph h hold ex al ret oas oh oid : Int) : Ses := ⟨ph, 65000, 1, 2, h, 5, 0, false, false, oas, oh, oid, 0, false, hold, ex, al, ret⟩
def minI (a b : Int) : Int := bif decide (b < a) then b else a
theorem est_t (h : Int) : estO [.int .i64 h] [] =
    bif !(and2 (and2 (and2 (and2 (and2 (and2 (and2 (1 != 0) (2 != 0)) (1 != 2)) (holdB h)) (decide (5 ≥ 1))) (decide (5 ≤ 65535))) (decide (0 ≥ 0))) (decide (0 ≤ 4095))) then .fail else
    bif goesB (cfgS 0 h 0 (-1) (-1) (-1) 0 0 0) 1 0 then bif goesB (cfgS 1 h 0 (-1) (-1) 5 0 0 0) 3 6 then bif goesB (cfgS 2 h 0 36 (-1) (-1) 0 0 0) 5 7 then
      bif !holdB h then bif goesB (cfgS 1 h 0 (-1) (-1) 12 0 0 0) 5 8 then .ret (Ses.v (cfgS 1 h 0 (-1) (-1) 12 0 0 0)) [] else .fail
      else bif minI h h == 0 then bif minI h h == 0 then bif goesB (cfgS 3 h (minI h h) (-1) (-1) (-1) 65000 h 2) 5 8 then bif minI h h == 0 then .ret (Ses.v (cfgS 4 h (minI h h) (-1) (-1) (-1) 65000 h 2)) [] else .ret (Ses.v (cfgS 4 h (minI h h) (w64 (8 + minI h h)) (-1) (-1) 65000 h 2)) [] else .fail
          else bif goesB (cfgS 3 h (minI h h) (-1) (w64 (7 + w64 ((minI h h).tdiv 3))) (-1) 65000 h 2) 5 8 then bif minI h h == 0 then .ret (Ses.v (cfgS 4 h (minI h h) (-1) (w64 (7 + w64 ((minI h h).tdiv 3))) (-1) 65000 h 2)) [] else .ret (Ses.v (cfgS 4 h (minI h h) (w64 (8 + minI h h)) (w64 (7 + w64 ((minI h h).tdiv 3))) (-1) 65000 h 2)) [] else .fail
        else bif minI h h == 0 then bif goesB (cfgS 3 h (minI h h) (w64 (7 + minI h h)) (-1) (-1) 65000 h 2) 5 8 then bif minI h h == 0 then .ret (Ses.v (cfgS 4 h (minI h h) (-1) (-1) (-1) 65000 h 2)) [] else .ret (Ses.v (cfgS 4 h (minI h h) (w64 (8 + minI h h)) (-1) (-1) 65000 h 2)) [] else .fail
          else bif goesB (cfgS 3 h (minI h h) (w64 (7 + minI h h)) (w64 (7 + w64 ((minI h h).tdiv 3))) (-1) 65000 h 2) 5 8 then bif minI h h == 0 then .ret (Ses.v (cfgS 4 h (minI h h) (-1) (w64 (7 + w64 ((minI h h).tdiv 3))) (-1) 65000 h 2)) [] else .ret (Ses.v (cfgS 4 h (minI h h) (w64 (8 + minI h h)) (w64 (7 + w64 ((minI h h).tdiv 3))) (-1) 65000 h 2)) [] else .fail
    else .fail else .fail else .fail := by kernel_rfl
end Go.Proofs.Ytbeolnccdhjjeaa
