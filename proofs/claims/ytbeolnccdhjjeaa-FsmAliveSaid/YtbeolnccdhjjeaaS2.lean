/- Sessions: what a step is, in plain terms, for any use of its outcome. -/
import Derived.Test.YtbeolnccdhjjeaaS1
namespace Go.Proofs.Ytbeolnccdhjjeaa
open Go.Am
structure Ses where
  (ph asn id pe ho re rs : Int) (pas rsd : Bool) (oas oh oid ors : Int) (ord : Bool) (hold ex al ret : Int)
structure Msg where
  (kind mas mh mid mrs : Int) (mrd : Bool) (code sub ori : Int) (path : List SV) (nx : Int) (hm : Bool) (med : Int) (hp : Bool) (prf : Int) (hor : Bool) (orr : Int) (cl cm : List SV) (tk tl tr tg : Int) (reach un : List SV)
structure Act where
  (kind : Int) (m : Msg) (reason : Int)
abbrev Ses.v (s : Ses) : SV := .agg [.int .i64 s.ph, .int .u32 s.asn, .int .u32 s.id, .int .u32 s.pe, .int .i64 s.ho, .int .i64 s.re, .int .i64 s.rs, .bool s.pas, .bool s.rsd, .int .u32 s.oas, .int .i64 s.oh, .int .u32 s.oid, .int .i64 s.ors, .bool s.ord, .int .i64 s.hold, .int .i64 s.ex, .int .i64 s.al, .int .i64 s.ret]
abbrev Msg.cs (m : Msg) : List SV := [.int .i64 m.kind, .int .u32 m.mas, .int .i64 m.mh, .int .u32 m.mid, .int .i64 m.mrs, .bool m.mrd, .int .i64 m.code, .int .i64 m.sub, .int .i64 m.ori, .psl 22 m.path, .int .u32 m.nx, .bool m.hm, .int .u32 m.med, .bool m.hp, .int .u32 m.prf, .bool m.hor, .int .u32 m.orr, .psl 23 m.cl, .psl 119 m.cm, .int .i64 m.tk, .int .u32 m.tl, .int .u32 m.tr, .int .u32 m.tg, .psl 103 m.reach, .psl 103 m.un]
abbrev Msg.v (m : Msg) : SV := .agg m.cs
abbrev evV (k : Int) (m : Msg) : SV := .agg (.int .i64 k :: m.cs)
abbrev Act.v (a : Act) : SV := .agg (.int .i64 a.kind :: (a.m.cs ++ [.int .i64 a.reason]))

def msg0 : Msg := ⟨0, 0, 0, 0, 0, false, 0, 0, 0, [], 0, false, 0, false, 0, false, 0, [], [], 0, 0, 0, 0, [], []⟩
abbrev plain (kind : Int) : Act := ⟨kind, msg0, 0⟩
abbrev send (m : Msg) : Act := ⟨1, m, 0⟩

abbrev w64 (n : Int) : Int := IntKind.i64.wrap n
def holdB (n : Int) : Bool := bif n == 0 then true else bif decide (n ≥ 3) then decide (n ≤ 65535) else false
def timerB (n : Int) : Bool := bif n == -1 then true else bif decide (n ≥ 0) then decide (n ≤ 2199023255552) else false
def soundB (id pe ho re rs : Int) : Bool := id != 0 && pe != 0 && id != pe && holdB ho && decide (re ≥ 1) && decide (re ≤ 65535) && decide (rs ≥ 0) && decide (rs ≤ 4095)
def Ses.ok (s : Ses) : Bool := soundB s.id s.pe s.ho s.re s.rs && decide (s.ph ≥ 0) && decide (s.ph ≤ 4) && holdB s.hold && timerB s.ex && timerB s.al && timerB s.ret
def dueB (t now : Int) : Bool := bif t != -1 then decide (t ≤ now) else false
def lightB (m : Msg) : Bool := bndE 4 m.path && bndE 4 m.cl && bndE 8 m.cm && bndE 80 m.reach && bndE 80 m.un

section
variable {R : Type} (ite : Bool → R → R → R) (fl : R)
def setRetryG (s : Ses) (now : Int) (κ : Ses → R) : R := ite s.pas (κ { s with ret := -1 }) (κ { s with ret := w64 (now + s.re) })
def setHoldG (s : Ses) (now : Int) (κ : Ses → R) : R := ite (s.hold == 0) (κ { s with ex := -1 }) (κ { s with ex := w64 (now + s.hold) })
def setAliveG (s : Ses) (now : Int) (κ : Ses → R) : R := ite (s.hold == 0) (κ { s with al := -1 }) (κ { s with al := w64 (now + w64 (s.hold.tdiv 3)) })
def leaveG (s : Ses) (l : List Act) (reason now : Int) (κ : Ses → List Act → R) : R :=
  bif s.ph == 4 then setRetryG ite { s with ph := 1, oas := 0, oh := 0, oid := 0, ors := 0, ord := false, hold := 0, ex := -1, al := -1 } now (fun s => κ s (l ++ [⟨5, msg0, reason⟩]))
  else setRetryG ite { s with ph := 1, oas := 0, oh := 0, oid := 0, ors := 0, ord := false, hold := 0, ex := -1, al := -1 } now (fun s => κ s l)
def failG (s : Ses) (code sub reason now : Int) (κ : Ses → List Act → R) : R :=
  leaveG ite s [send { msg0 with kind := 3, code := code, sub := sub }, plain 3] reason now κ
def idleS (s : Ses) : Ses := { s with ph := 0, ret := -1 }
def laterG (s : Ses) (k : Int) (m : Msg) (now : Int) (κ : Ses → List Act → R) (look : R) : R :=
  bif k == 2 then failG ite s 6 2 5 now (fun s l => κ (idleS s) l)
  else bif k == 4 then leaveG ite s [] 1 now κ
  else bif k == 7 then
    ite (dueB s.ex now) (failG ite s 4 0 2 now κ)
      (ite (dueB s.al now) (κ { s with al := w64 (now + w64 (s.hold.tdiv 3)) } [send { msg0 with kind := 4 }])
        (κ s []))
  else bif k == 6 then failG ite s m.code m.sub 4 now κ
  else bif k == 5 then ite (m.kind != 3) look (leaveG ite s [plain 3] 3 now κ)
  else κ s []
def stepG (s : Ses) (k : Int) (m : Msg) (now : Int) (κ : Ses → List Act → R) : R :=
  bif s.ph == 0 then
    bif k == 1 then
      ite (!s.pas) (setRetryG ite { s with ph := 1 } now (fun s => κ s [plain 2]))
        (setRetryG ite { s with ph := 1 } now (fun s => κ s []))
    else bif k == 3 then κ s [plain 3] else κ s []
  else bif s.ph == 1 then
    bif k == 2 then leaveG ite s [] 5 now (fun s l => κ (idleS s) l)
    else bif k == 3 then κ { s with ph := 2, ex := w64 (now + 30), ret := -1 } [send { msg0 with kind := 1, mas := s.asn, mh := s.ho, mid := s.id, mrs := s.rs, mrd := s.rsd }]
    else bif k == 4 then leaveG ite s [] 1 now κ
    else bif k == 7 then ite (dueB s.ret now) (setRetryG ite s now (fun s => κ s [plain 2])) (κ s [])
    else κ s []
  else bif s.ph == 2 then
    laterG ite s k m now κ
      (ite (m.kind != 1) (failG ite s 5 (w64 (s.ph - 1)) 4 now κ) <|
      ite (m.mas != s.asn) (failG ite s 2 2 4 now κ) <|
      ite (m.mid != s.pe) (failG ite s 2 3 4 now κ) <|
      ite (!holdB m.mh) (failG ite s 2 6 4 now κ) <|
      setHoldG ite { s with oas := m.mas, oh := m.mh, oid := m.mid, ors := m.mrs, ord := m.mrd, hold := bif decide (m.mh < s.ho) then m.mh else s.ho, ph := 3 } now (fun s => setAliveG ite s now (fun s => κ s [send { msg0 with kind := 4 }])))
  else bif s.ph == 3 then
    laterG ite s k m now κ
      (ite (m.kind != 4) (failG ite s 5 (w64 (s.ph - 1)) 4 now κ) <|
      setHoldG ite { s with ph := 4 } now (fun s => κ s [⟨4, { msg0 with kind := 1, mas := s.oas, mh := s.oh, mid := s.oid, mrs := s.ors, mrd := s.ord }, 0⟩]))
  else
    laterG ite s k m now κ
      (let deliver := ite (bndE 4 m.path) (ite (bndE 4 m.cl) (ite (bndE 8 m.cm) (ite (bndE 80 m.reach) (ite (bndE 80 m.un) (setHoldG ite s now (fun s => κ s [⟨6, m, 0⟩])) fl) fl) fl) fl) fl
       let other := ite (m.kind == 4) (setHoldG ite s now (fun s => κ s [])) (failG ite s 5 (w64 (s.ph - 1)) 4 now κ)
       ite (m.kind == 2) (ite (m.kind == 2) deliver other) (ite (m.kind == 5) deliver other))
end
def stepT (s : Ses) (l : List Act) : CTree := match l with
  | [] => .ret (.tup [s.v, .nils]) []
  | a :: l => .ret (.tup [s.v, .qs 0 27 0 (a :: l).length]) [(0, some (.seq 57 ((a :: l).map Act.v)))]
end Go.Proofs.Ytbeolnccdhjjeaa
