/- FsmAlive: what the code computes. -/
import Derived.Test.YtbeolnccdhjjeaaS6
import Derived.Test.YtbeolnccdhjjeaaAmLoopTop
namespace Go.Proofs.Ytbeolnccdhjjeaa
open Go.Am
set_option maxRecDepth 100000
abbrev Ses.cs (s : Ses) : List SV := [.int .i64 s.ph, .int .u32 s.asn, .int .u32 s.id, .int .u32 s.pe, .int .i64 s.ho, .int .i64 s.re, .int .i64 s.rs, .bool s.pas, .bool s.rsd, .int .u32 s.oas, .int .i64 s.oh, .int .u32 s.oid, .int .i64 s.ors, .bool s.ord, .int .i64 s.hold, .int .i64 s.ex, .int .i64 s.al, .int .i64 s.ret]
/-- An established session before its hold timer's end: a tick, a KEEPALIVE. -/
def estep_s : CSumm
  | [.agg [.int .i64 ph, .int .u32 asn, .int .u32 id, .int .u32 pe, .int .i64 ho, .int .i64 re, .int .i64 rs, .bool pas, .bool rsd, .int .u32 oas, .int .i64 oh, .int .u32 oid, .int .i64 ors, .bool ord, .int .i64 hold, .int .i64 ex, .int .i64 al, .int .i64 ret],
     .agg [.int .i64 k, .int .i64 kind, .int .u32 mas, .int .i64 mh, .int .u32 mid, .int .i64 mrs, .bool mrd, .int .i64 code, .int .i64 sub, .int .i64 ori, .psl 22 path, .int .u32 nx, .bool hm, .int .u32 med, .bool hp, .int .u32 prf, .bool hor, .int .u32 orr, .psl 23 cl, .psl 119 cm, .int .i64 tk, .int .u32 tl, .int .u32 tr, .int .u32 tg, .psl 103 reach, .psl 103 un],
     .int .i64 now], [] =>
    let m : Msg := ⟨kind, mas, mh, mid, mrs, mrd, code, sub, ori, path, nx, hm, med, hp, prf, hor, orr, cl, cm, tk, tl, tr, tg, reach, un⟩
    let s : Ses := ⟨ph, asn, id, pe, ho, re, rs, pas, rsd, oas, oh, oid, ors, ord, hold, ex, al, ret⟩
    .ite (lightB m) (.ite (goesB s k now) (bif ph == 4 then
      bif k == 7 then .ite (dueB ex now) .fail (.ite (dueB al now) (stepT { s with al := w64 (now + w64 (hold.tdiv 3)) } [send { msg0 with kind := 4 }]) (stepT s []))
      else bif k == 5 then bif kind == 4 then .ite (hold == 0) .fail (stepT { s with ex := w64 (now + hold) } []) else .fail else .fail else .fail) .fail) .fail
  | _, _ => .fail
theorem estep_k : Known Try.prog 15 (stepC estep_s) := (step_i_k.weak (s' := estep_s) (by
  intro args H v ups h
  unfold estep_s at h
  split at h
  · rename_i ph asn id pe ho re rs pas rsd oas oh oid ors ord hold ex al ret k kind mas mh mid mrs mrd code sub ori path nx hm med hp prf hor orr cl cm tk tl tr tg reach un now
    unfold step_i
    simp only [crun_ite] at h ⊢
    generalize lightB _ = b1 at h ⊢
    generalize goesB _ _ _ = b2 at h ⊢
    cases b1 with
    | false => cases h
    | true =>
      cases b2 with
      | false => cases h
      | true =>
        simp only [cond_true, crun_cond] at h ⊢
        cases hp4 : (ph == 4) with
        | false => rw [hp4] at h; cases h
        | true =>
          rw [beq_iff_eq] at hp4
          subst hp4
          simp only [beq_self_eq_true, cond_true] at h
          cases hk7 : (k == 7) with
          | true =>
            rw [beq_iff_eq] at hk7
            subst hk7
            simp only [beq_self_eq_true, cond_true, crun_ite] at h
            rw [← h]
            show crun (CTree.ite (dueB ex now) _ _) = _
            rw [crun_ite]
            cases hd : dueB ex now with
            | true => rw [hd] at h; cases h
            | false =>
              simp only [cond_false]
              exact crun_ite _ _ _
          | false =>
            rw [hk7, cond_false] at h
            cases hk5 : (k == 5) with
            | false => rw [hk5] at h; cases h
            | true =>
              rw [beq_iff_eq] at hk5
              subst hk5
              simp only [beq_self_eq_true, cond_true] at h
              cases hkd : (kind == 4) with
              | false => rw [hkd] at h; cases h
              | true =>
                rw [beq_iff_eq] at hkd
                subst hkd
                simp only [beq_self_eq_true, cond_true, crun_ite] at h
                rw [← h]
                cases hz : (hold == 0) with
                | true => rw [hz] at h; cases h
                | false =>
                  simp only [cond_false]
                  show crun (CTree.ite (hold == 0) _ _) = _
                  rw [crun_ite, hz]
                  rfl
  · cases h)).co _

noncomputable abbrev κa := tbl [(15, stepC estep_s), (9, lives_s), (20, pick_s), (23, est_s)]
theorem oka : KOk Try.prog κa := tbl_cons estep_k (tbl_cons lives_k (tbl_cons pick_k (tbl_cons est_k ok0)))
noncomputable abbrev κao := openT Try.prog κa 300 5
noncomputable abbrev ιa : Nat → Bool := fun g => inl κa g && hasBody Try.prog g
noncomputable def body7 : Code := Try.f7.body.getD .skip
noncomputable def c7 : Code := (loopAt 6 body7).getD .skip

def aliveR : Nat → Int → Int → Int → Int → Int × Int
  | 0, _, _, ex, al => (ex, al)
  | n + 1, h, now, _, al => bif dueB al now then aliveR n h (now + 1) (now + h) (now + h.tdiv 3) else aliveR n h (now + 1) (now + h) al
/-- What holds where a round begins. -/
def aliveI (h t last now ex al : Int) : Bool := decide (3 ≤ h) && decide (h ≤ 60) && decide (0 ≤ t) && decide (t ≤ 300) && decide (9 ≤ now) && decide (now ≤ t + 9) && decide (ex = now - 1 + h) && decide (al = last + h.tdiv 3) && decide (7 ≤ last) && decide (last < now) && (decide (last = 7) || decide (now ≤ al))
def left (t now : Int) : Nat := (t + 9 - now).toNat
def aliveE (h t now ex al : Int) : List (Nat × Option Chunk) := [(0, some (.cells 29 (Ses.cs (est h (aliveR (left t now) h now ex al).1 (aliveR (left t now) h now ex al).2))))]
def alive_s : CSumm
  | [.int .i64 h, .int .i64 t, .ptr 0 0, .int .i64 last, .int .i64 now], [(0, .cells 29 [.int .i64 4, .int .u32 65000, .int .u32 1, .int .u32 2, .int .i64 h', .int .i64 5, .int .i64 0, .bool false, .bool false, .int .u32 65000, .int .i64 h2, .int .u32 2, .int .i64 0, .bool false, .int .i64 h3, .int .i64 ex, .int .i64 al, .int .i64 (-1)])] =>
    .ite (aliveI h t last now ex al && decide (h' = h) && decide (h2 = h) && decide (h3 = h)) (.ite (left t now == 0) (.ret (.tup [.int .i64 2]) []) (.ret (.tup [.int .i64 2]) [(0, some (.cells 29 (Ses.cs (est h (aliveR (left t now) h now ex al).1 (aliveR (left t now) h now ex al).2))))])) .fail
  | _, _ => .fail
def aliveM : List SV → HpL → Nat
  | [.int .i64 _, .int .i64 t, .ptr 0 0, .int .i64 _, .int .i64 now], _ => left t now
  | _, _ => 0
noncomputable def e7 : LEnt := { ins := [0, 1, 5, 6, 7], outs := [], keep := [], size := 87, code := c7, s := alive_s }
def nextT (n : Nat) (h t last now ex al : Int) : CTree :=
  bif Nat.blt (left t now) n then bif (aliveI h t last now ex al && decide (h = h) && decide (h = h) && decide (h = h)) then
    bif left t now == 0 then .ret (.tup [.int .i64 2]) [(0, some (.cells 29 (Ses.cs (est h ex al))))]
    else .ret (.tup [.int .i64 2]) [(0, some (.cells 29 (Ses.cs (est h (aliveR (left t now) h now ex al).1 (aliveR (left t now) h now ex al).2))))] else .fail else .fail
abbrev third (h : Int) : Int := bif decide (w64 (h.tdiv 3) < 1) then 1 else w64 (h.tdiv 3)
theorem round7 (n : Nat) (h t last now ex al : Int) : loopOnce Try.prog κao ιa (ltab []) true 300 e7 { e7 with s := boundT aliveM alive_s n } c7 [.int .i64 h, .int .i64 t, .ptr 0 0, .int .i64 last, .int .i64 now] [(0, .cells 29 (Ses.cs (est h ex al)))] =
  bif decide (now ≤ w64 (8 + t)) then
    bif goesB (est h ex al) 7 now then bif dueB ex now then .fail else
      bif dueB al now then
        bif goesB (est h ex (w64 (now + w64 (h.tdiv 3)))) 5 now then bif h == 0 then .fail else
          bif w64 (now - last) != third h then
            bif last != 7 then .ret (.tup [.int .i64 1]) [(0, some (.cells 29 (Ses.cs (est h (w64 (now + h)) (w64 (now + w64 (h.tdiv 3)))))))]
            else nextT n h t now (w64 (now + 1)) (w64 (now + h)) (w64 (now + w64 (h.tdiv 3)))
          else nextT n h t now (w64 (now + 1)) (w64 (now + h)) (w64 (now + w64 (h.tdiv 3)))
        else .fail
      else
        bif goesB (est h ex al) 5 now then bif h == 0 then .fail else
          bif decide (w64 (now - last) > third h) then .ret (.tup [.int .i64 1]) [(0, some (.cells 29 (Ses.cs (est h (w64 (now + h)) al))))]
          else nextT n h t last (w64 (now + 1)) (w64 (now + h)) al
        else .fail
    else .fail
  else .ret (.tup [.int .i64 2]) [] := by kernel_rfl
end Go.Proofs.Ytbeolnccdhjjeaa
