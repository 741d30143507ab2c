/- Sessions: copies of events, bounds, new sessions. -/
import Derived.Test.YtbeolnccdhjjeaaPart2
import Derived.Test.YtbeolnccdhjjeaaMachine4
import Derived.Test.YtbeolnccdhjjeaaPart1
namespace Go.Proofs.Ytbeolnccdhjjeaa
open Go.Am
set_option maxRecDepth 100000
noncomputable abbrev opn (T : Nat → Option CSumm) (fn : Func) : CSumm := bodyC Try.prog (openT Try.prog T 300 5) (fun g => inl T g && hasBody Try.prog g) true 300 fn
abbrev κe := tbl [(74, cloneS 22 4), (75, cloneS 23 4), (76, cloneS 119 8), (54, cloneS 103 80)]
theorem oke : KOk Try.prog κe := tbl_cons ow74_k (tbl_cons ow75_k (tbl_cons ow76_k (tbl_cons ow54_k ok0)))
def ownA_s : CSumm
  | [.agg [.int .i64 ori, .psl 22 path, .int .u32 nx, .bool hm, .int .u32 med, .bool hp, .int .u32 prf, .bool hor, .int .u32 orr, .psl 23 cl, .psl 119 cm, .int .i64 tk, .int .u32 tl, .int .u32 tr, .int .u32 tg]], [] =>
    .ite (bndE 4 path) (.ite (bndE 4 cl) (.ite (bndE 8 cm) (.ret (.agg [.int .i64 ori, .psl 22 path, .int .u32 nx, .bool hm, .int .u32 med, .bool hp, .int .u32 prf, .bool hor, .int .u32 orr, .psl 23 cl, .psl 119 cm, .int .i64 tk, .int .u32 tl, .int .u32 tr, .int .u32 tg]) []) .fail) .fail) .fail
  | _, _ => .fail
theorem ownA_k : Known Try.prog 53 ownA_s := (openKnown oke Try.func53 rfl).weak (by
  intro args H v ups h
  unfold ownA_s at h
  split at h
  · rename_i ori path nx hm med hp prf hor orr cl cm tk tl tr tg
    rw [← h]
    have e : opn κe Try.f53 [.agg [.int .i64 ori, .psl 22 path, .int .u32 nx, .bool hm, .int .u32 med, .bool hp, .int .u32 prf, .bool hor, .int .u32 orr, .psl 23 cl, .psl 119 cm, .int .i64 tk, .int .u32 tl, .int .u32 tr, .int .u32 tg]] [] =
      bif bndE 4 path then bif bndE 4 cl then bif bndE 8 cm then .ret (.agg [.int .i64 ori, .psl 22 path, .int .u32 nx, .bool hm, .int .u32 med, .bool hp, .int .u32 prf, .bool hor, .int .u32 orr, .psl 23 cl, .psl 119 cm, .int .i64 tk, .int .u32 tl, .int .u32 tr, .int .u32 tg]) [] else .fail else .fail else .fail := by kernel_rfl
    refine (congrArg crun e).trans ?_
    simp only [crun_ite, crun_cond]
  · cases h)
abbrev κe2 := tbl [(53, ownA_s), (54, cloneS 103 80)]
theorem oke2 : KOk Try.prog κe2 := tbl_cons ownA_k (tbl_cons ow54_k ok0)
def ownM_s : CSumm
  | [.agg [.int .i64 kind, .int .u32 mas, .int .i64 mh, .int .u32 mid, .int .i64 mrs, .bool mrd, .int .i64 code, .int .i64 sub, .int .i64 ori, .psl 22 path, .int .u32 nx, .bool hm, .int .u32 med, .bool hp, .int .u32 prf, .bool hor, .int .u32 orr, .psl 23 cl, .psl 119 cm, .int .i64 tk, .int .u32 tl, .int .u32 tr, .int .u32 tg, .psl 103 reach, .psl 103 un]], [] =>
    let m : Msg := ⟨kind, mas, mh, mid, mrs, mrd, code, sub, ori, path, nx, hm, med, hp, prf, hor, orr, cl, cm, tk, tl, tr, tg, reach, un⟩
    .ite (lightB m) (.ret m.v []) .fail
  | _, _ => .fail
theorem ownM_t (m : Msg) : opn κe2 Try.f35 [m.v] [] = bif bndE 4 m.path then bif bndE 4 m.cl then bif bndE 8 m.cm then bif bndE 80 m.reach then bif bndE 80 m.un then .ret m.v [] else .fail else .fail else .fail else .fail else .fail := by kernel_rfl
theorem ownM_k : Known Try.prog 35 ownM_s := (openKnown oke2 Try.func35 rfl).weak (by
  intro args H v ups h
  unfold ownM_s at h
  split at h
  · rename_i kind mas mh mid mrs mrd code sub ori path nx hm med hp prf hor orr cl cm tk tl tr tg reach un
    rw [← h]
    refine (congrArg crun (ownM_t ⟨kind, mas, mh, mid, mrs, mrd, code, sub, ori, path, nx, hm, med, hp, prf, hor, orr, cl, cm, tk, tl, tr, tg, reach, un⟩)).trans ?_
    simp only [crun_ite, crun_cond, lightB]
    cases bndE 4 path <;> cases bndE 4 cl <;> cases bndE 8 cm <;> cases bndE 80 reach <;> cases bndE 80 un <;> rfl
  · cases h)
abbrev κe3 := tbl [(35, ownM_s)]
theorem oke3 : KOk Try.prog κe3 := tbl_cons ownM_k ok0
def event_s : CSumm
  | [.agg [.int .i64 k, .int .i64 kind, .int .u32 mas, .int .i64 mh, .int .u32 mid, .int .i64 mrs, .bool mrd, .int .i64 code, .int .i64 sub, .int .i64 ori, .psl 22 path, .int .u32 nx, .bool hm, .int .u32 med, .bool hp, .int .u32 prf, .bool hor, .int .u32 orr, .psl 23 cl, .psl 119 cm, .int .i64 tk, .int .u32 tl, .int .u32 tr, .int .u32 tg, .psl 103 reach, .psl 103 un]], [] =>
    let m : Msg := ⟨kind, mas, mh, mid, mrs, mrd, code, sub, ori, path, nx, hm, med, hp, prf, hor, orr, cl, cm, tk, tl, tr, tg, reach, un⟩
    .ite (lightB m) (.ret (evV k m) []) .fail
  | _, _ => .fail
theorem event_t (k : Int) (m : Msg) : opn κe3 Try.f16 [evV k m] [] = bif lightB m then .ret (evV k m) [] else .fail := by kernel_rfl
theorem event_k : Known Try.prog 16 event_s := (openKnown oke3 Try.func16 rfl).weak (by
  intro args H v ups h
  unfold event_s at h
  split at h
  · rename_i k kind mas mh mid mrs mrd code sub ori path nx hm med hp prf hor orr cl cm tk tl tr tg reach un
    rw [← h]
    refine (congrArg crun (event_t k ⟨kind, mas, mh, mid, mrs, mrd, code, sub, ori, path, nx, hm, med, hp, prf, hor, orr, cl, cm, tk, tl, tr, tg, reach, un⟩)).trans ?_
    simp only [crun_ite, crun_cond]
  · cases h)
def lightM (m : Msg) : Bool := and2 (and2 (and2 (and2 (decide ((m.path.length : Int) ≤ 40)) (decide ((m.cl.length : Int) ≤ 20))) (decide ((m.cm.length : Int) ≤ 80))) (decide ((m.reach.length : Int) ≤ 40))) (decide ((m.un.length : Int) ≤ 40))
def lightM_s : CSumm
  | [.agg [.int .i64 kind, .int .u32 mas, .int .i64 mh, .int .u32 mid, .int .i64 mrs, .bool mrd, .int .i64 code, .int .i64 sub, .int .i64 ori, .psl 22 path, .int .u32 nx, .bool hm, .int .u32 med, .bool hp, .int .u32 prf, .bool hor, .int .u32 orr, .psl 23 cl, .psl 119 cm, .int .i64 tk, .int .u32 tl, .int .u32 tr, .int .u32 tg, .psl 103 reach, .psl 103 un]], [] =>
    .ret (.bool (lightM ⟨kind, mas, mh, mid, mrs, mrd, code, sub, ori, path, nx, hm, med, hp, prf, hor, orr, cl, cm, tk, tl, tr, tg, reach, un⟩)) []
  | _, _ => .fail
theorem lightM_t (m : Msg) : opn (tbl []) Try.f26 [m.v] [] = .ret (.bool (lightM m)) [] := by kernel_rfl
theorem lightM_k : Known Try.prog 26 lightM_s := (openKnown ok0 Try.func26 rfl).weak (by
  intro args H v ups h
  unfold lightM_s at h
  split at h
  · rename_i kind mas mh mid mrs mrd code sub ori path nx hm med hp prf hor orr cl cm tk tl tr tg reach un
    rw [← h]
    exact congrArg crun (lightM_t ⟨kind, mas, mh, mid, mrs, mrd, code, sub, ori, path, nx, hm, med, hp, prf, hor, orr, cl, cm, tk, tl, tr, tg, reach, un⟩)
  · cases h)
theorem bnd_of {b : Nat} {l : List SV} {n : Nat} (h : l.length ≤ n) (hn : n ≤ 1000) (hb : b ≤ 1000) : bndE b l = true := by
  unfold bndE
  have : l.length * b ≤ 1000 * 1000 := Nat.mul_le_mul (by omega) hb
  simp only [Bool.and_eq_true, decide_eq_true_eq]
  omega
theorem light_ok {m : Msg} (h : lightM m = true) : lightB m = true := by
  unfold lightM at h
  simp only [and2_eq, Bool.and_eq_true, decide_eq_true_eq] at h
  obtain ⟨⟨⟨⟨h1, h2⟩, h3⟩, h4⟩, h5⟩ := h
  unfold lightB
  rw [bnd_of (n := 40) (by omega) (by omega) (by omega), bnd_of (n := 20) (by omega) (by omega) (by omega), bnd_of (n := 80) (by omega) (by omega) (by omega), bnd_of (n := 40) (by omega) (by omega) (by omega), bnd_of (n := 40) (by omega) (by omega) (by omega)]
  rfl
/-- New sessions. -/
def cfgOk (b c d e f : Int) : Bool := and2 (and2 (and2 (and2 (and2 (and2 (and2 (b != 0) (c != 0)) (b != c)) (holdB d)) (decide (e ≥ 1))) (decide (e ≤ 65535))) (decide (f ≥ 0))) (decide (f ≤ 4095))
theorem cfgOk_eq (b c d e f : Int) : cfgOk b c d e f = soundB b c d e f := by
  unfold cfgOk soundB; simp only [and2_eq]
def newS (a b c d e f : Int) (g h : Bool) : Ses := bif cfgOk b c d e f then ⟨0, a, b, c, d, e, f, g, h, 0, 0, 0, 0, false, 0, -1, -1, -1⟩ else ⟨0, 0, 0, 0, 0, 0, 0, false, false, 0, 0, 0, 0, false, 0, 0, 0, 0⟩
def new_s : CSumm
  | [.agg [.int .u32 a, .int .u32 b, .int .u32 c, .int .i64 d, .int .i64 e, .int .i64 f, .bool g, .bool h]], [] => .ret (.tup [(newS a b c d e f g h).v, .int .i64 (bif cfgOk b c d e f then 0 else 2)]) []
  | _, _ => .fail
theorem new_t (a b c d e f : Int) (g h : Bool) : opn (tbl [(29, hold_s)]) Try.f11 [.agg [.int .u32 a, .int .u32 b, .int .u32 c, .int .i64 d, .int .i64 e, .int .i64 f, .bool g, .bool h]] [] =
  bif !cfgOk b c d e f then .ret (.tup [Ses.v ⟨0, 0, 0, 0, 0, 0, 0, false, false, 0, 0, 0, 0, false, 0, 0, 0, 0⟩, .int .i64 2]) [] else .ret (.tup [Ses.v ⟨0, a, b, c, d, e, f, g, h, 0, 0, 0, 0, false, 0, -1, -1, -1⟩, .int .i64 0]) [] := by kernel_rfl
theorem rnew_t (a b c d e f : Int) (g h : Bool) : opn (tbl [(31, hold_s)]) Try.f12 [.agg [.int .u32 a, .int .u32 b, .int .u32 c, .int .i64 d, .int .i64 e, .int .i64 f, .bool g, .bool h]] [] =
  bif !cfgOk b c d e f then .ret (.tup [Ses.v ⟨0, 0, 0, 0, 0, 0, 0, false, false, 0, 0, 0, 0, false, 0, 0, 0, 0⟩, .int .i64 2]) [] else .ret (.tup [Ses.v ⟨0, a, b, c, d, e, f, g, h, 0, 0, 0, 0, false, 0, -1, -1, -1⟩, .int .i64 0]) [] := by kernel_rfl
theorem new_tree (a b c d e f : Int) (g h : Bool) : crun (bif !cfgOk b c d e f then .ret (.tup [Ses.v ⟨0, 0, 0, 0, 0, 0, 0, false, false, 0, 0, 0, 0, false, 0, 0, 0, 0⟩, .int .i64 2]) [] else .ret (.tup [Ses.v ⟨0, a, b, c, d, e, f, g, h, 0, 0, 0, 0, false, 0, -1, -1, -1⟩, .int .i64 0]) []) =
    crun (.ret (.tup [(newS a b c d e f g h).v, .int .i64 (bif cfgOk b c d e f then 0 else 2)]) []) := by
  unfold newS
  cases cfgOk b c d e f <;> rfl
theorem new_k : Known Try.prog 11 new_s := (openKnown (T := tbl [(29, hold_s)]) (tbl_cons hold_k ok0) Try.func11 rfl).weak (by
  intro args H v ups h
  unfold new_s at h
  split at h
  · rename_i a b c d e f g h'
    rw [← h, ← new_tree]
    exact congrArg crun (new_t a b c d e f g h')
  · cases h)
theorem rnew_k : Known Try.prog 12 new_s := (openKnown (T := tbl [(31, hold_s)]) (tbl_cons rhold_k ok0) Try.func12 rfl).weak (by
  intro args H v ups h
  unfold new_s at h
  split at h
  · rename_i a b c d e f g h'
    rw [← h, ← new_tree]
    exact congrArg crun (rnew_t a b c d e f g h')
  · cases h)
end Go.Proofs.Ytbeolnccdhjjeaa
/- FsmInvalid. -/
namespace Go.Proofs.Ytbeolnccdhjjeaa
open Go.Am
set_option maxRecDepth 100000
noncomputable abbrev κ8 := tbl [(9, lives_s), (13, valid_s), (15, stepC step_s), (16, event_s), (26, lightM_s)]
theorem ok8 : KOk Try.prog κ8 := tbl_cons lives_k (tbl_cons valid_k (tbl_cons stepS_k (tbl_cons event_k (tbl_cons lightM_k ok0))))
noncomputable abbrev law8 : CSumm := opn κ8 Try.f8
theorem law8_k : Known Try.prog 8 law8 := openKnown ok8 Try.func8 rfl
def sameS (a b : Ses) : Bool := a.ph == b.ph && (a.asn == b.asn && (a.id == b.id && (a.pe == b.pe && (a.ho == b.ho && (a.re == b.re && (a.rs == b.rs && (a.pas == b.pas && (a.rsd == b.rsd && (a.oas == b.oas && (a.oh == b.oh && (a.oid == b.oid && (a.ors == b.ors && (a.ord == b.ord && (a.hold == b.hold && (a.ex == b.ex && (a.al == b.al && (a.ret == b.ret)))))))))))))))))
def badB (s : Ses) (k now : Int) : Bool := bif bif bif bif !s.ok then true else decide (now < 0) then true else decide (now > 1099511627776) then true else decide (k < 1) then true else decide (k > 7)
def rightB (ph kind : Int) : Bool := bif bif bif kind == 3 then true else bif ph == 2 then kind == 1 else false then true else bif ph == 3 then kind == 4 else false then true
  else bif ph == 4 then bif bif kind == 4 then true else kind == 2 then true else kind == 5 else false
def cellI (l : List Act) (i j : Nat) : Int := asI (cellAt ((l.map Act.v).getD i .junk) j)
def tree8 (s : Ses) (k : Int) (m : Msg) (now : Int) (p : Ses × List Act) : CTree :=
  bif !lightM m then .ret (.bool true) [] else bif lightB m then bif lightB m then
    bif p.2.isEmpty then
      bif badB s k now then .ret (.bool (bif sameS p.1 s then (0 : Int) == 0 else false)) [] else
      bif bif k != 5 then true else decide (s.ph < 2) then .ret (.bool p.1.ok) [] else
      bif rightB s.ph m.kind then .ret (.bool p.1.ok) [] else
      bif p.1.ph == 1 then .ret (.bool false) [] else .ret (.bool false) []
    else
      bif badB s k now then .ret (.bool (bif sameS p.1 s then (p.2.length : Int) == 0 else false)) [] else
      bif bif k != 5 then true else decide (s.ph < 2) then .ret (.bool p.1.ok) [] else
      bif rightB s.ph m.kind then .ret (.bool p.1.ok) [] else
      bif p.1.ph == 1 then bif decide ((p.2.length : Int) ≥ 2) then
        bif inB 0 p.2.length then bif decide (0 < (p.2.map Act.v).length) then bif cellI p.2 0 0 == 1 then
        bif inB 0 p.2.length then bif decide (0 < (p.2.map Act.v).length) then bif cellI p.2 0 1 == 3 then
        bif inB 0 p.2.length then bif decide (0 < (p.2.map Act.v).length) then bif cellI p.2 0 7 == 5 then
        bif inB 0 p.2.length then bif decide (0 < (p.2.map Act.v).length) then bif cellI p.2 0 8 == w64 (s.ph - 1) then
        bif inB 1 p.2.length then bif decide (1 < (p.2.map Act.v).length) then .ret (.bool (cellI p.2 1 0 == 3)) []
        else .fail else .fail else .ret (.bool false) [] else .fail else .fail else .ret (.bool false) [] else .fail else .fail else .ret (.bool false) [] else .fail else .fail else .ret (.bool false) [] else .fail else .fail
        else .ret (.bool false) [] else .ret (.bool false) []
  else .fail else .fail
theorem law8_t (s : Ses) (k : Int) (m : Msg) (now : Int) : law8 [s.v, evV k m, .int .i64 now] [] = tree8 s k m now (stepP s k m now) := by kernel_rfl
theorem sameS_refl (s : Ses) : sameS s s = true := by unfold sameS; simp
theorem badB_iff (s : Ses) (k now : Int) : badB s k now = !goesB s k now := by
  unfold badB goesB
  have : knownB k = (!decide (k < 1) && !decide (k > 7)) := by
    rw [Bool.eq_iff_iff]
    simp only [knownB, Bool.or_eq_true, beq_iff_eq, Bool.and_eq_true, Bool.not_eq_true', decide_eq_false_iff_not]
    omega
  rw [this, show decide (0 ≤ now) = !decide (now < 0) by rw [Bool.eq_iff_iff]; simp, show decide (now ≤ 1099511627776) = !decide (now > 1099511627776) by rw [Bool.eq_iff_iff]; simp]
  cases s.ok <;> cases decide (now < 0) <;> cases decide (now > 1099511627776) <;> cases decide (k < 1) <;> cases decide (k > 7) <;> rfl
theorem wrong_step {s : Ses} {m : Msg} {now : Int} (hg : goesB s 5 now = true) (hl : lightB m = true) (hp : ¬ s.ph < 2) (hr : rightB s.ph m.kind = false) : stepP s 5 m now = (leaveS s now, [send { msg0 with kind := 3, code := 5, sub := w64 (s.ph - 1) }, plain 3] ++ downL s 4) := by
  unfold stepP
  rw [hg]
  simp only [goesB, Bool.and_eq_true, decide_eq_true_eq] at hg
  have hok := (ok_iff s).1 hg.1.1.1
  simp only [lightB, Bool.and_eq_true] at hl
  unfold stepG laterG
  simp only [leaveG_eq, failG_eq, setRetryG_eq, setHoldG_eq, setAliveG_eq, hl, cond_true]
  have hph : s.ph = 2 ∨ s.ph = 3 ∨ s.ph = 4 := by omega
  unfold rightB at hr
  simp only [bne]
  rcases hph with h | h | h <;> rw [h] at hr ⊢ <;> cases h3 : (m.kind == 3) <;> cases h1 : (m.kind == 1) <;> cases h2 : (m.kind == 2) <;> cases h4 : (m.kind == 4) <;> cases h5 : (m.kind == 5) <;> first | (exfalso; simp only [h1, h2, h3, h4, h5] at hr; exact absurd hr (by decide)) | rfl
theorem law8_true (s : Ses) (k : Int) (m : Msg) (now : Int) : crun (law8 [s.v, evV k m, .int .i64 now] []) = some (.bool true, []) := by
  rw [law8_t]
  unfold tree8
  cases hm : lightM m with
  | false => rfl
  | true =>
    have hl := light_ok hm
    rw [hl, badB_iff]
    simp only [Bool.not_true, cond_false, cond_true]
    cases hg : goesB s k now with
    | false => rw [stepP_no hg, sameS_refl]; rfl
    | true =>
      simp only [Bool.not_true, cond_false]
      have hs : s.ok = true := by simp only [goesB, Bool.and_eq_true] at hg; exact hg.1.1.1
      have hpo := (post_stepP (s := s) (k := k) (m := m) (now := now) hs hl).ok
      rw [hpo]
      cases h1 : (bif k != 5 then true else decide (s.ph < 2)) with
      | true => cases (stepP s k m now).2.isEmpty <;> rfl
      | false =>
        simp only [cond_false]
        cases h2 : rightB s.ph m.kind with
        | true => cases (stepP s k m now).2.isEmpty <;> rfl
        | false =>
          have hk : k = 5 := by
            cases hk : (k != 5) with
            | true => rw [hk] at h1; cases h1
            | false => simpa using hk
          subst hk
          have hp : ¬ s.ph < 2 := by simpa using h1
          rw [wrong_step hg hl hp h2]
          unfold downL
          have hw : (cellI [send { msg0 with kind := 3, code := 5, sub := w64 (s.ph - 1) }, plain 3] 0 8 == w64 (s.ph - 1)) = true := by
            show (w64 (s.ph - 1) == w64 (s.ph - 1)) = true
            simp
          have hw2 : (cellI [send { msg0 with kind := 3, code := 5, sub := w64 (s.ph - 1) }, plain 3, ⟨5, msg0, 4⟩] 0 8 == w64 (s.ph - 1)) = true := by
            show (w64 (s.ph - 1) == w64 (s.ph - 1)) = true
            simp
          cases (s.ph == 4) with
          | true => simp only [cond_true, List.cons_append, List.nil_append, hw2]; rfl
          | false => simp only [cond_false, List.append_nil, hw]; rfl
/-- Values of the rows: sessions, messages, events. -/
theorem ses_inv {v : SV} (h : OkV Try.prog 29 v) : ∃ s : Ses, v = s.v := by
  obtain ⟨cs, rfl, h'⟩ := h.agg_inv (by kernel_rfl)
  clear h
  have h := h'
  clear h'
  rw [show leaves Try.prog 40 29 = [3, 22, 23, 23, 3, 3, 3, 4, 4, 22, 3, 23, 3, 4, 3, 3, 3, 3] by kernel_rfl] at h
  obtain ⟨v_ph, cs, rfl, h_ph, h⟩ := h.cons_inv
  obtain ⟨v_asn, cs, rfl, h_asn, h⟩ := h.cons_inv
  obtain ⟨v_id, cs, rfl, h_id, h⟩ := h.cons_inv
  obtain ⟨v_pe, cs, rfl, h_pe, h⟩ := h.cons_inv
  obtain ⟨v_ho, cs, rfl, h_ho, h⟩ := h.cons_inv
  obtain ⟨v_re, cs, rfl, h_re, h⟩ := h.cons_inv
  obtain ⟨v_rs, cs, rfl, h_rs, h⟩ := h.cons_inv
  obtain ⟨v_pas, cs, rfl, h_pas, h⟩ := h.cons_inv
  obtain ⟨v_rsd, cs, rfl, h_rsd, h⟩ := h.cons_inv
  obtain ⟨v_oas, cs, rfl, h_oas, h⟩ := h.cons_inv
  obtain ⟨v_oh, cs, rfl, h_oh, h⟩ := h.cons_inv
  obtain ⟨v_oid, cs, rfl, h_oid, h⟩ := h.cons_inv
  obtain ⟨v_ors, cs, rfl, h_ors, h⟩ := h.cons_inv
  obtain ⟨v_ord, cs, rfl, h_ord, h⟩ := h.cons_inv
  obtain ⟨v_hold, cs, rfl, h_hold, h⟩ := h.cons_inv
  obtain ⟨v_ex, cs, rfl, h_ex, h⟩ := h.cons_inv
  obtain ⟨v_al, cs, rfl, h_al, h⟩ := h.cons_inv
  obtain ⟨v_ret, cs, rfl, h_ret, h⟩ := h.cons_inv
  obtain rfl := h.nil_inv
  obtain ⟨ph', rfl, -⟩ := h_ph.int_inv Try.underlying3
  obtain ⟨asn', rfl, -⟩ := h_asn.int_inv Try.underlying22
  obtain ⟨id', rfl, -⟩ := h_id.int_inv Try.underlying23
  obtain ⟨pe', rfl, -⟩ := h_pe.int_inv Try.underlying23
  obtain ⟨ho', rfl, -⟩ := h_ho.int_inv Try.underlying3
  obtain ⟨re', rfl, -⟩ := h_re.int_inv Try.underlying3
  obtain ⟨rs', rfl, -⟩ := h_rs.int_inv Try.underlying3
  obtain ⟨pas', rfl⟩ := h_pas.bool_inv Try.underlying4
  obtain ⟨rsd', rfl⟩ := h_rsd.bool_inv Try.underlying4
  obtain ⟨oas', rfl, -⟩ := h_oas.int_inv Try.underlying22
  obtain ⟨oh', rfl, -⟩ := h_oh.int_inv Try.underlying3
  obtain ⟨oid', rfl, -⟩ := h_oid.int_inv Try.underlying23
  obtain ⟨ors', rfl, -⟩ := h_ors.int_inv Try.underlying3
  obtain ⟨ord', rfl⟩ := h_ord.bool_inv Try.underlying4
  obtain ⟨hold', rfl, -⟩ := h_hold.int_inv Try.underlying3
  obtain ⟨ex', rfl, -⟩ := h_ex.int_inv Try.underlying3
  obtain ⟨al', rfl, -⟩ := h_al.int_inv Try.underlying3
  obtain ⟨ret', rfl, -⟩ := h_ret.int_inv Try.underlying3
  exact ⟨⟨ph', asn', id', pe', ho', re', rs', pas', rsd', oas', oh', oid', ors', ord', hold', ex', al', ret'⟩, rfl⟩
theorem ev_inv {v : SV} (h : OkV Try.prog 52 v) : ∃ (k : Int) (m : Msg), v = evV k m := by
  obtain ⟨cs, rfl, h'⟩ := h.agg_inv (by kernel_rfl)
  clear h
  have h := h'
  clear h'
  rw [show leaves Try.prog 40 52 = [3, 3, 22, 3, 23, 3, 4, 3, 3, 3, 41, 23, 4, 22, 4, 22, 4, 23, 42, 43, 3, 22, 23, 23, 48, 48] by kernel_rfl] at h
  obtain ⟨v_k, cs, rfl, h_k, h⟩ := h.cons_inv
  obtain ⟨v_kind, cs, rfl, h_kind, h⟩ := h.cons_inv
  obtain ⟨v_mas, cs, rfl, h_mas, h⟩ := h.cons_inv
  obtain ⟨v_mh, cs, rfl, h_mh, h⟩ := h.cons_inv
  obtain ⟨v_mid, cs, rfl, h_mid, h⟩ := h.cons_inv
  obtain ⟨v_mrs, cs, rfl, h_mrs, h⟩ := h.cons_inv
  obtain ⟨v_mrd, cs, rfl, h_mrd, h⟩ := h.cons_inv
  obtain ⟨v_code, cs, rfl, h_code, h⟩ := h.cons_inv
  obtain ⟨v_sub, cs, rfl, h_sub, h⟩ := h.cons_inv
  obtain ⟨v_ori, cs, rfl, h_ori, h⟩ := h.cons_inv
  obtain ⟨v_path, cs, rfl, h_path, h⟩ := h.cons_inv
  obtain ⟨v_nx, cs, rfl, h_nx, h⟩ := h.cons_inv
  obtain ⟨v_hm, cs, rfl, h_hm, h⟩ := h.cons_inv
  obtain ⟨v_med, cs, rfl, h_med, h⟩ := h.cons_inv
  obtain ⟨v_hp, cs, rfl, h_hp, h⟩ := h.cons_inv
  obtain ⟨v_prf, cs, rfl, h_prf, h⟩ := h.cons_inv
  obtain ⟨v_hor, cs, rfl, h_hor, h⟩ := h.cons_inv
  obtain ⟨v_orr, cs, rfl, h_orr, h⟩ := h.cons_inv
  obtain ⟨v_cl, cs, rfl, h_cl, h⟩ := h.cons_inv
  obtain ⟨v_cm, cs, rfl, h_cm, h⟩ := h.cons_inv
  obtain ⟨v_tk, cs, rfl, h_tk, h⟩ := h.cons_inv
  obtain ⟨v_tl, cs, rfl, h_tl, h⟩ := h.cons_inv
  obtain ⟨v_tr, cs, rfl, h_tr, h⟩ := h.cons_inv
  obtain ⟨v_tg, cs, rfl, h_tg, h⟩ := h.cons_inv
  obtain ⟨v_reach, cs, rfl, h_reach, h⟩ := h.cons_inv
  obtain ⟨v_un, cs, rfl, h_un, h⟩ := h.cons_inv
  obtain rfl := h.nil_inv
  obtain ⟨k', rfl, -⟩ := h_k.int_inv Try.underlying3
  obtain ⟨kind', rfl, -⟩ := h_kind.int_inv Try.underlying3
  obtain ⟨mas', rfl, -⟩ := h_mas.int_inv Try.underlying22
  obtain ⟨mh', rfl, -⟩ := h_mh.int_inv Try.underlying3
  obtain ⟨mid', rfl, -⟩ := h_mid.int_inv Try.underlying23
  obtain ⟨mrs', rfl, -⟩ := h_mrs.int_inv Try.underlying3
  obtain ⟨mrd', rfl⟩ := h_mrd.bool_inv Try.underlying4
  obtain ⟨code', rfl, -⟩ := h_code.int_inv Try.underlying3
  obtain ⟨sub', rfl, -⟩ := h_sub.int_inv Try.underlying3
  obtain ⟨ori', rfl, -⟩ := h_ori.int_inv Try.underlying3
  obtain ⟨path', rfl, -⟩ := h_path.sl_inv Try.underlying41
  obtain ⟨nx', rfl, -⟩ := h_nx.int_inv Try.underlying23
  obtain ⟨hm', rfl⟩ := h_hm.bool_inv Try.underlying4
  obtain ⟨med', rfl, -⟩ := h_med.int_inv Try.underlying22
  obtain ⟨hp', rfl⟩ := h_hp.bool_inv Try.underlying4
  obtain ⟨prf', rfl, -⟩ := h_prf.int_inv Try.underlying22
  obtain ⟨hor', rfl⟩ := h_hor.bool_inv Try.underlying4
  obtain ⟨orr', rfl, -⟩ := h_orr.int_inv Try.underlying23
  obtain ⟨cl', rfl, -⟩ := h_cl.sl_inv Try.underlying42
  obtain ⟨cm', rfl, -⟩ := h_cm.sl_inv Try.underlying43
  obtain ⟨tk', rfl, -⟩ := h_tk.int_inv Try.underlying3
  obtain ⟨tl', rfl, -⟩ := h_tl.int_inv Try.underlying22
  obtain ⟨tr', rfl, -⟩ := h_tr.int_inv Try.underlying23
  obtain ⟨tg', rfl, -⟩ := h_tg.int_inv Try.underlying23
  obtain ⟨reach', rfl, -⟩ := h_reach.sl_inv Try.underlying48
  obtain ⟨un', rfl, -⟩ := h_un.sl_inv Try.underlying48
  exact ⟨k', ⟨kind', mas', mh', mid', mrs', mrd', code', sub', ori', path', nx', hm', med', hp', prf', hor', orr', cl', cm', tk', tl', tr', tg', reach', un'⟩, rfl⟩
end Go.Proofs.Ytbeolnccdhjjeaa
/- Sessions: of the rows. -/
namespace Go.Proofs.Ytbeolnccdhjjeaa
open Go.Am Go.ChangeShapes Go.WideShapes Go.ChangeAt Go.RowKit Go.Joins
theorem Try.own : ownKnob Try.prog.godebug = none := by kernel_rfl
theorem laidTry : laidOutB Try.prog = true := by kernel_rfl
theorem mapsTry : mapsRowed Try.prog = true := by kernel_rfl
theorem fullTry : ((List.range Try.prog.types.size).all fun t => match Try.prog.underlying t with | some (.slice e) => decide (0 < Try.prog.cellsOf e) | _ => true) = true := by kernel_rfl
end Go.Proofs.Ytbeolnccdhjjeaa
