/- FsmInvalid. -/
import Derived.Test.YtbeolnccdhjjeaaPart3
import Derived.Test.YtbeolnccdhjjeaaMachine4
import Derived.Test.YtbeolnccdhjjeaaPart2
namespace Go.Proofs.Ytbeolnccdhjjeaa
open Go.Am
set_option maxRecDepth 100000
noncomputable abbrev κ8 := tbl [(9, lives_s), (13, valid_s), (15, stepC step_s), (16, event_s), (26, lightM_s)]
theorem ok8 : KOk Try.prog κ8 := tbl_cons lives_k (tbl_cons valid_k (tbl_cons stepS_k (tbl_cons event_k (tbl_cons lightM_k ok0))))
noncomputable abbrev law8 : CSumm := opn κ8 Try.f8
theorem law8_k : Known Try.prog 8 law8 := openKnown ok8 Try.func8 rfl
def sameS (a b : Ses) : Bool := a.ph == b.ph && (a.asn == b.asn && (a.id == b.id && (a.pe == b.pe && (a.ho == b.ho && (a.re == b.re && (a.rs == b.rs && (a.pas == b.pas && (a.rsd == b.rsd && (a.oas == b.oas && (a.oh == b.oh && (a.oid == b.oid && (a.ors == b.ors && (a.ord == b.ord && (a.hold == b.hold && (a.ex == b.ex && (a.al == b.al && (a.ret == b.ret)))))))))))))))))
def badB (s : Ses) (k now : Int) : Bool := bif bif bif bif !s.ok then true else decide (now < 0) then true else decide (now > 1099511627776) then true else decide (k < 1) then true else decide (k > 7)
def rightB (ph kind : Int) : Bool := bif bif bif kind == 3 then true else bif ph == 2 then kind == 1 else false then true else bif ph == 3 then kind == 4 else false then true
  else bif ph == 4 then bif bif kind == 4 then true else kind == 2 then true else kind == 5 else false
def cellI (l : List Act) (i j : Nat) : Int := asI (cellAt ((l.map Act.v).getD i .junk) j)
def tree8 (s : Ses) (k : Int) (m : Msg) (now : Int) (p : Ses × List Act) : CTree :=
  bif !lightM m then .ret (.bool true) [] else bif lightB m then bif lightB m then
    bif p.2.isEmpty then
      bif badB s k now then .ret (.bool (bif sameS p.1 s then (0 : Int) == 0 else false)) [] else
      bif bif k != 5 then true else decide (s.ph < 2) then .ret (.bool p.1.ok) [] else
      bif rightB s.ph m.kind then .ret (.bool p.1.ok) [] else
      bif p.1.ph == 1 then .ret (.bool false) [] else .ret (.bool false) []
    else
      bif badB s k now then .ret (.bool (bif sameS p.1 s then (p.2.length : Int) == 0 else false)) [] else
      bif bif k != 5 then true else decide (s.ph < 2) then .ret (.bool p.1.ok) [] else
      bif rightB s.ph m.kind then .ret (.bool p.1.ok) [] else
      bif p.1.ph == 1 then bif decide ((p.2.length : Int) ≥ 2) then
        bif inB 0 p.2.length then bif decide (0 < (p.2.map Act.v).length) then bif cellI p.2 0 0 == 1 then
        bif inB 0 p.2.length then bif decide (0 < (p.2.map Act.v).length) then bif cellI p.2 0 1 == 3 then
        bif inB 0 p.2.length then bif decide (0 < (p.2.map Act.v).length) then bif cellI p.2 0 7 == 5 then
        bif inB 0 p.2.length then bif decide (0 < (p.2.map Act.v).length) then bif cellI p.2 0 8 == w64 (s.ph - 1) then
        bif inB 1 p.2.length then bif decide (1 < (p.2.map Act.v).length) then .ret (.bool (cellI p.2 1 0 == 3)) []
        else .fail else .fail else .ret (.bool false) [] else .fail else .fail else .ret (.bool false) [] else .fail else .fail else .ret (.bool false) [] else .fail else .fail else .ret (.bool false) [] else .fail else .fail
        else .ret (.bool false) [] else .ret (.bool false) []
  else .fail else .fail
theorem law8_t (s : Ses) (k : Int) (m : Msg) (now : Int) : law8 [s.v, evV k m, .int .i64 now] [] = tree8 s k m now (stepP s k m now) := by kernel_rfl
theorem sameS_refl (s : Ses) : sameS s s = true := by unfold sameS; simp
theorem badB_iff (s : Ses) (k now : Int) : badB s k now = !goesB s k now := by
  unfold badB goesB
  have : knownB k = (!decide (k < 1) && !decide (k > 7)) := by
    rw [Bool.eq_iff_iff]
    simp only [knownB, Bool.or_eq_true, beq_iff_eq, Bool.and_eq_true, Bool.not_eq_true', decide_eq_false_iff_not]
    omega
  rw [this, show decide (0 ≤ now) = !decide (now < 0) by rw [Bool.eq_iff_iff]; simp, show decide (now ≤ 1099511627776) = !decide (now > 1099511627776) by rw [Bool.eq_iff_iff]; simp]
  cases s.ok <;> cases decide (now < 0) <;> cases decide (now > 1099511627776) <;> cases decide (k < 1) <;> cases decide (k > 7) <;> rfl
theorem wrong_step {s : Ses} {m : Msg} {now : Int} (hg : goesB s 5 now = true) (hl : lightB m = true) (hp : ¬ s.ph < 2) (hr : rightB s.ph m.kind = false) : stepP s 5 m now = (leaveS s now, [send { msg0 with kind := 3, code := 5, sub := w64 (s.ph - 1) }, plain 3] ++ downL s 4) := by
  unfold stepP
  rw [hg]
  simp only [goesB, Bool.and_eq_true, decide_eq_true_eq] at hg
  have hok := (ok_iff s).1 hg.1.1.1
  simp only [lightB, Bool.and_eq_true] at hl
  unfold stepG laterG
  simp only [leaveG_eq, failG_eq, setRetryG_eq, setHoldG_eq, setAliveG_eq, hl, cond_true]
  have hph : s.ph = 2 ∨ s.ph = 3 ∨ s.ph = 4 := by omega
  unfold rightB at hr
  simp only [bne]
  rcases hph with h | h | h <;> rw [h] at hr ⊢ <;> cases h3 : (m.kind == 3) <;> cases h1 : (m.kind == 1) <;> cases h2 : (m.kind == 2) <;> cases h4 : (m.kind == 4) <;> cases h5 : (m.kind == 5) <;> first | (exfalso; simp only [h1, h2, h3, h4, h5] at hr; exact absurd hr (by decide)) | rfl
theorem law8_true (s : Ses) (k : Int) (m : Msg) (now : Int) : crun (law8 [s.v, evV k m, .int .i64 now] []) = some (.bool true, []) := by
  rw [law8_t]
  unfold tree8
  cases hm : lightM m with
  | false => rfl
  | true =>
    have hl := light_ok hm
    rw [hl, badB_iff]
    simp only [Bool.not_true, cond_false, cond_true]
    cases hg : goesB s k now with
    | false => rw [stepP_no hg, sameS_refl]; rfl
    | true =>
      simp only [Bool.not_true, cond_false]
      have hs : s.ok = true := by simp only [goesB, Bool.and_eq_true] at hg; exact hg.1.1.1
      have hpo := (post_stepP (s := s) (k := k) (m := m) (now := now) hs hl).ok
      rw [hpo]
      cases h1 : (bif k != 5 then true else decide (s.ph < 2)) with
      | true => cases (stepP s k m now).2.isEmpty <;> rfl
      | false =>
        simp only [cond_false]
        cases h2 : rightB s.ph m.kind with
        | true => cases (stepP s k m now).2.isEmpty <;> rfl
        | false =>
          have hk : k = 5 := by
            cases hk : (k != 5) with
            | true => rw [hk] at h1; cases h1
            | false => simpa using hk
          subst hk
          have hp : ¬ s.ph < 2 := by simpa using h1
          rw [wrong_step hg hl hp h2]
          unfold downL
          have hw : (cellI [send { msg0 with kind := 3, code := 5, sub := w64 (s.ph - 1) }, plain 3] 0 8 == w64 (s.ph - 1)) = true := by
            show (w64 (s.ph - 1) == w64 (s.ph - 1)) = true
            simp
          have hw2 : (cellI [send { msg0 with kind := 3, code := 5, sub := w64 (s.ph - 1) }, plain 3, ⟨5, msg0, 4⟩] 0 8 == w64 (s.ph - 1)) = true := by
            show (w64 (s.ph - 1) == w64 (s.ph - 1)) = true
            simp
          cases (s.ph == 4) with
          | true => simp only [cond_true, List.cons_append, List.nil_append, hw2]; rfl
          | false => simp only [cond_false, List.append_nil, hw]; rfl
/-- Values of the rows: sessions, messages, events. -/
theorem ses_inv {v : SV} (h : OkV Try.prog 29 v) : ∃ s : Ses, v = s.v := by
  obtain ⟨cs, rfl, h'⟩ := h.agg_inv (by kernel_rfl)
  clear h
  have h := h'
  clear h'
  rw [show leaves Try.prog 40 29 = [3, 22, 23, 23, 3, 3, 3, 4, 4, 22, 3, 23, 3, 4, 3, 3, 3, 3] by kernel_rfl] at h
  obtain ⟨v_ph, cs, rfl, h_ph, h⟩ := h.cons_inv
  obtain ⟨v_asn, cs, rfl, h_asn, h⟩ := h.cons_inv
  obtain ⟨v_id, cs, rfl, h_id, h⟩ := h.cons_inv
  obtain ⟨v_pe, cs, rfl, h_pe, h⟩ := h.cons_inv
  obtain ⟨v_ho, cs, rfl, h_ho, h⟩ := h.cons_inv
  obtain ⟨v_re, cs, rfl, h_re, h⟩ := h.cons_inv
  obtain ⟨v_rs, cs, rfl, h_rs, h⟩ := h.cons_inv
  obtain ⟨v_pas, cs, rfl, h_pas, h⟩ := h.cons_inv
  obtain ⟨v_rsd, cs, rfl, h_rsd, h⟩ := h.cons_inv
  obtain ⟨v_oas, cs, rfl, h_oas, h⟩ := h.cons_inv
  obtain ⟨v_oh, cs, rfl, h_oh, h⟩ := h.cons_inv
  obtain ⟨v_oid, cs, rfl, h_oid, h⟩ := h.cons_inv
  obtain ⟨v_ors, cs, rfl, h_ors, h⟩ := h.cons_inv
  obtain ⟨v_ord, cs, rfl, h_ord, h⟩ := h.cons_inv
  obtain ⟨v_hold, cs, rfl, h_hold, h⟩ := h.cons_inv
  obtain ⟨v_ex, cs, rfl, h_ex, h⟩ := h.cons_inv
  obtain ⟨v_al, cs, rfl, h_al, h⟩ := h.cons_inv
  obtain ⟨v_ret, cs, rfl, h_ret, h⟩ := h.cons_inv
  obtain rfl := h.nil_inv
  obtain ⟨ph', rfl, -⟩ := h_ph.int_inv Try.underlying3
  obtain ⟨asn', rfl, -⟩ := h_asn.int_inv Try.underlying22
  obtain ⟨id', rfl, -⟩ := h_id.int_inv Try.underlying23
  obtain ⟨pe', rfl, -⟩ := h_pe.int_inv Try.underlying23
  obtain ⟨ho', rfl, -⟩ := h_ho.int_inv Try.underlying3
  obtain ⟨re', rfl, -⟩ := h_re.int_inv Try.underlying3
  obtain ⟨rs', rfl, -⟩ := h_rs.int_inv Try.underlying3
  obtain ⟨pas', rfl⟩ := h_pas.bool_inv Try.underlying4
  obtain ⟨rsd', rfl⟩ := h_rsd.bool_inv Try.underlying4
  obtain ⟨oas', rfl, -⟩ := h_oas.int_inv Try.underlying22
  obtain ⟨oh', rfl, -⟩ := h_oh.int_inv Try.underlying3
  obtain ⟨oid', rfl, -⟩ := h_oid.int_inv Try.underlying23
  obtain ⟨ors', rfl, -⟩ := h_ors.int_inv Try.underlying3
  obtain ⟨ord', rfl⟩ := h_ord.bool_inv Try.underlying4
  obtain ⟨hold', rfl, -⟩ := h_hold.int_inv Try.underlying3
  obtain ⟨ex', rfl, -⟩ := h_ex.int_inv Try.underlying3
  obtain ⟨al', rfl, -⟩ := h_al.int_inv Try.underlying3
  obtain ⟨ret', rfl, -⟩ := h_ret.int_inv Try.underlying3
  exact ⟨⟨ph', asn', id', pe', ho', re', rs', pas', rsd', oas', oh', oid', ors', ord', hold', ex', al', ret'⟩, rfl⟩
theorem ev_inv {v : SV} (h : OkV Try.prog 52 v) : ∃ (k : Int) (m : Msg), v = evV k m := by
  obtain ⟨cs, rfl, h'⟩ := h.agg_inv (by kernel_rfl)
  clear h
  have h := h'
  clear h'
  rw [show leaves Try.prog 40 52 = [3, 3, 22, 3, 23, 3, 4, 3, 3, 3, 41, 23, 4, 22, 4, 22, 4, 23, 42, 43, 3, 22, 23, 23, 48, 48] by kernel_rfl] at h
  obtain ⟨v_k, cs, rfl, h_k, h⟩ := h.cons_inv
  obtain ⟨v_kind, cs, rfl, h_kind, h⟩ := h.cons_inv
  obtain ⟨v_mas, cs, rfl, h_mas, h⟩ := h.cons_inv
  obtain ⟨v_mh, cs, rfl, h_mh, h⟩ := h.cons_inv
  obtain ⟨v_mid, cs, rfl, h_mid, h⟩ := h.cons_inv
  obtain ⟨v_mrs, cs, rfl, h_mrs, h⟩ := h.cons_inv
  obtain ⟨v_mrd, cs, rfl, h_mrd, h⟩ := h.cons_inv
  obtain ⟨v_code, cs, rfl, h_code, h⟩ := h.cons_inv
  obtain ⟨v_sub, cs, rfl, h_sub, h⟩ := h.cons_inv
  obtain ⟨v_ori, cs, rfl, h_ori, h⟩ := h.cons_inv
  obtain ⟨v_path, cs, rfl, h_path, h⟩ := h.cons_inv
  obtain ⟨v_nx, cs, rfl, h_nx, h⟩ := h.cons_inv
  obtain ⟨v_hm, cs, rfl, h_hm, h⟩ := h.cons_inv
  obtain ⟨v_med, cs, rfl, h_med, h⟩ := h.cons_inv
  obtain ⟨v_hp, cs, rfl, h_hp, h⟩ := h.cons_inv
  obtain ⟨v_prf, cs, rfl, h_prf, h⟩ := h.cons_inv
  obtain ⟨v_hor, cs, rfl, h_hor, h⟩ := h.cons_inv
  obtain ⟨v_orr, cs, rfl, h_orr, h⟩ := h.cons_inv
  obtain ⟨v_cl, cs, rfl, h_cl, h⟩ := h.cons_inv
  obtain ⟨v_cm, cs, rfl, h_cm, h⟩ := h.cons_inv
  obtain ⟨v_tk, cs, rfl, h_tk, h⟩ := h.cons_inv
  obtain ⟨v_tl, cs, rfl, h_tl, h⟩ := h.cons_inv
  obtain ⟨v_tr, cs, rfl, h_tr, h⟩ := h.cons_inv
  obtain ⟨v_tg, cs, rfl, h_tg, h⟩ := h.cons_inv
  obtain ⟨v_reach, cs, rfl, h_reach, h⟩ := h.cons_inv
  obtain ⟨v_un, cs, rfl, h_un, h⟩ := h.cons_inv
  obtain rfl := h.nil_inv
  obtain ⟨k', rfl, -⟩ := h_k.int_inv Try.underlying3
  obtain ⟨kind', rfl, -⟩ := h_kind.int_inv Try.underlying3
  obtain ⟨mas', rfl, -⟩ := h_mas.int_inv Try.underlying22
  obtain ⟨mh', rfl, -⟩ := h_mh.int_inv Try.underlying3
  obtain ⟨mid', rfl, -⟩ := h_mid.int_inv Try.underlying23
  obtain ⟨mrs', rfl, -⟩ := h_mrs.int_inv Try.underlying3
  obtain ⟨mrd', rfl⟩ := h_mrd.bool_inv Try.underlying4
  obtain ⟨code', rfl, -⟩ := h_code.int_inv Try.underlying3
  obtain ⟨sub', rfl, -⟩ := h_sub.int_inv Try.underlying3
  obtain ⟨ori', rfl, -⟩ := h_ori.int_inv Try.underlying3
  obtain ⟨path', rfl, -⟩ := h_path.sl_inv Try.underlying41
  obtain ⟨nx', rfl, -⟩ := h_nx.int_inv Try.underlying23
  obtain ⟨hm', rfl⟩ := h_hm.bool_inv Try.underlying4
  obtain ⟨med', rfl, -⟩ := h_med.int_inv Try.underlying22
  obtain ⟨hp', rfl⟩ := h_hp.bool_inv Try.underlying4
  obtain ⟨prf', rfl, -⟩ := h_prf.int_inv Try.underlying22
  obtain ⟨hor', rfl⟩ := h_hor.bool_inv Try.underlying4
  obtain ⟨orr', rfl, -⟩ := h_orr.int_inv Try.underlying23
  obtain ⟨cl', rfl, -⟩ := h_cl.sl_inv Try.underlying42
  obtain ⟨cm', rfl, -⟩ := h_cm.sl_inv Try.underlying43
  obtain ⟨tk', rfl, -⟩ := h_tk.int_inv Try.underlying3
  obtain ⟨tl', rfl, -⟩ := h_tl.int_inv Try.underlying22
  obtain ⟨tr', rfl, -⟩ := h_tr.int_inv Try.underlying23
  obtain ⟨tg', rfl, -⟩ := h_tg.int_inv Try.underlying23
  obtain ⟨reach', rfl, -⟩ := h_reach.sl_inv Try.underlying48
  obtain ⟨un', rfl, -⟩ := h_un.sl_inv Try.underlying48
  exact ⟨k', ⟨kind', mas', mh', mid', mrs', mrd', code', sub', ori', path', nx', hm', med', hp', prf', hor', orr', cl', cm', tk', tl', tr', tg', reach', un'⟩, rfl⟩
end Go.Proofs.Ytbeolnccdhjjeaa
/- FsmAlive: what the code computes. -/
namespace Go.Proofs.Ytbeolnccdhjjeaa
open Go.Am
set_option maxRecDepth 100000
abbrev Ses.cs (s : Ses) : List SV := [.int .i64 s.ph, .int .u32 s.asn, .int .u32 s.id, .int .u32 s.pe, .int .i64 s.ho, .int .i64 s.re, .int .i64 s.rs, .bool s.pas, .bool s.rsd, .int .u32 s.oas, .int .i64 s.oh, .int .u32 s.oid, .int .i64 s.ors, .bool s.ord, .int .i64 s.hold, .int .i64 s.ex, .int .i64 s.al, .int .i64 s.ret]
/-- An established session before its hold timer's end: a tick, a KEEPALIVE. -/
def estep_s : CSumm
  | [.agg [.int .i64 ph, .int .u32 asn, .int .u32 id, .int .u32 pe, .int .i64 ho, .int .i64 re, .int .i64 rs, .bool pas, .bool rsd, .int .u32 oas, .int .i64 oh, .int .u32 oid, .int .i64 ors, .bool ord, .int .i64 hold, .int .i64 ex, .int .i64 al, .int .i64 ret],
     .agg [.int .i64 k, .int .i64 kind, .int .u32 mas, .int .i64 mh, .int .u32 mid, .int .i64 mrs, .bool mrd, .int .i64 code, .int .i64 sub, .int .i64 ori, .psl 22 path, .int .u32 nx, .bool hm, .int .u32 med, .bool hp, .int .u32 prf, .bool hor, .int .u32 orr, .psl 23 cl, .psl 119 cm, .int .i64 tk, .int .u32 tl, .int .u32 tr, .int .u32 tg, .psl 103 reach, .psl 103 un],
     .int .i64 now], [] =>
    let m : Msg := ⟨kind, mas, mh, mid, mrs, mrd, code, sub, ori, path, nx, hm, med, hp, prf, hor, orr, cl, cm, tk, tl, tr, tg, reach, un⟩
    let s : Ses := ⟨ph, asn, id, pe, ho, re, rs, pas, rsd, oas, oh, oid, ors, ord, hold, ex, al, ret⟩
    .ite (lightB m) (.ite (goesB s k now) (bif ph == 4 then
      bif k == 7 then .ite (dueB ex now) .fail (.ite (dueB al now) (stepT { s with al := w64 (now + w64 (hold.tdiv 3)) } [send { msg0 with kind := 4 }]) (stepT s []))
      else bif k == 5 then bif kind == 4 then .ite (hold == 0) .fail (stepT { s with ex := w64 (now + hold) } []) else .fail else .fail else .fail) .fail) .fail
  | _, _ => .fail
theorem estep_k : Known Try.prog 15 (stepC estep_s) := (step_i_k.weak (s' := estep_s) (by
  intro args H v ups h
  unfold estep_s at h
  split at h
  · rename_i ph asn id pe ho re rs pas rsd oas oh oid ors ord hold ex al ret k kind mas mh mid mrs mrd code sub ori path nx hm med hp prf hor orr cl cm tk tl tr tg reach un now
    unfold step_i
    simp only [crun_ite] at h ⊢
    generalize lightB _ = b1 at h ⊢
    generalize goesB _ _ _ = b2 at h ⊢
    cases b1 with
    | false => cases h
    | true =>
      cases b2 with
      | false => cases h
      | true =>
        simp only [cond_true, crun_cond] at h ⊢
        cases hp4 : (ph == 4) with
        | false => rw [hp4] at h; cases h
        | true =>
          rw [beq_iff_eq] at hp4
          subst hp4
          simp only [beq_self_eq_true, cond_true] at h
          cases hk7 : (k == 7) with
          | true =>
            rw [beq_iff_eq] at hk7
            subst hk7
            simp only [beq_self_eq_true, cond_true, crun_ite] at h
            rw [← h]
            show crun (CTree.ite (dueB ex now) _ _) = _
            rw [crun_ite]
            cases hd : dueB ex now with
            | true => rw [hd] at h; cases h
            | false =>
              simp only [cond_false]
              exact crun_ite _ _ _
          | false =>
            rw [hk7, cond_false] at h
            cases hk5 : (k == 5) with
            | false => rw [hk5] at h; cases h
            | true =>
              rw [beq_iff_eq] at hk5
              subst hk5
              simp only [beq_self_eq_true, cond_true] at h
              cases hkd : (kind == 4) with
              | false => rw [hkd] at h; cases h
              | true =>
                rw [beq_iff_eq] at hkd
                subst hkd
                simp only [beq_self_eq_true, cond_true, crun_ite] at h
                rw [← h]
                cases hz : (hold == 0) with
                | true => rw [hz] at h; cases h
                | false =>
                  simp only [cond_false]
                  show crun (CTree.ite (hold == 0) _ _) = _
                  rw [crun_ite, hz]
                  rfl
  · cases h)).co _

noncomputable abbrev κa := tbl [(15, stepC estep_s), (9, lives_s), (20, pick_s), (23, est_s)]
theorem oka : KOk Try.prog κa := tbl_cons estep_k (tbl_cons lives_k (tbl_cons pick_k (tbl_cons est_k ok0)))
noncomputable abbrev κao := openT Try.prog κa 300 5
noncomputable abbrev ιa : Nat → Bool := fun g => inl κa g && hasBody Try.prog g
noncomputable def body7 : Code := Try.f7.body.getD .skip
noncomputable def c7 : Code := (loopAt 6 body7).getD .skip

def aliveR : Nat → Int → Int → Int → Int → Int × Int
  | 0, _, _, ex, al => (ex, al)
  | n + 1, h, now, _, al => bif dueB al now then aliveR n h (now + 1) (now + h) (now + h.tdiv 3) else aliveR n h (now + 1) (now + h) al
/-- What holds where a round begins. -/
def aliveI (h t last now ex al : Int) : Bool := decide (3 ≤ h) && decide (h ≤ 60) && decide (0 ≤ t) && decide (t ≤ 300) && decide (9 ≤ now) && decide (now ≤ t + 9) && decide (ex = now - 1 + h) && decide (al = last + h.tdiv 3) && decide (7 ≤ last) && decide (last < now) && (decide (last = 7) || decide (now ≤ al))
def left (t now : Int) : Nat := (t + 9 - now).toNat
def aliveE (h t now ex al : Int) : List (Nat × Option Chunk) := [(0, some (.cells 29 (Ses.cs (est h (aliveR (left t now) h now ex al).1 (aliveR (left t now) h now ex al).2))))]
def alive_s : CSumm
  | [.int .i64 h, .int .i64 t, .ptr 0 0, .int .i64 last, .int .i64 now], [(0, .cells 29 [.int .i64 4, .int .u32 65000, .int .u32 1, .int .u32 2, .int .i64 h', .int .i64 5, .int .i64 0, .bool false, .bool false, .int .u32 65000, .int .i64 h2, .int .u32 2, .int .i64 0, .bool false, .int .i64 h3, .int .i64 ex, .int .i64 al, .int .i64 (-1)])] =>
    .ite (aliveI h t last now ex al && decide (h' = h) && decide (h2 = h) && decide (h3 = h)) (.ite (left t now == 0) (.ret (.tup [.int .i64 2]) []) (.ret (.tup [.int .i64 2]) [(0, some (.cells 29 (Ses.cs (est h (aliveR (left t now) h now ex al).1 (aliveR (left t now) h now ex al).2))))])) .fail
  | _, _ => .fail
def aliveM : List SV → HpL → Nat
  | [.int .i64 _, .int .i64 t, .ptr 0 0, .int .i64 _, .int .i64 now], _ => left t now
  | _, _ => 0
noncomputable def e7 : LEnt := { ins := [0, 1, 5, 6, 7], outs := [], keep := [], size := 87, code := c7, s := alive_s }
def nextT (n : Nat) (h t last now ex al : Int) : CTree :=
  bif Nat.blt (left t now) n then bif (aliveI h t last now ex al && decide (h = h) && decide (h = h) && decide (h = h)) then
    bif left t now == 0 then .ret (.tup [.int .i64 2]) [(0, some (.cells 29 (Ses.cs (est h ex al))))]
    else .ret (.tup [.int .i64 2]) [(0, some (.cells 29 (Ses.cs (est h (aliveR (left t now) h now ex al).1 (aliveR (left t now) h now ex al).2))))] else .fail else .fail
abbrev third (h : Int) : Int := bif decide (w64 (h.tdiv 3) < 1) then 1 else w64 (h.tdiv 3)
theorem round7 (n : Nat) (h t last now ex al : Int) : loopOnce Try.prog κao ιa (ltab []) true 300 e7 { e7 with s := boundT aliveM alive_s n } c7 [.int .i64 h, .int .i64 t, .ptr 0 0, .int .i64 last, .int .i64 now] [(0, .cells 29 (Ses.cs (est h ex al)))] =
  bif decide (now ≤ w64 (8 + t)) then
    bif goesB (est h ex al) 7 now then bif dueB ex now then .fail else
      bif dueB al now then
        bif goesB (est h ex (w64 (now + w64 (h.tdiv 3)))) 5 now then bif h == 0 then .fail else
          bif w64 (now - last) != third h then
            bif last != 7 then .ret (.tup [.int .i64 1]) [(0, some (.cells 29 (Ses.cs (est h (w64 (now + h)) (w64 (now + w64 (h.tdiv 3)))))))]
            else nextT n h t now (w64 (now + 1)) (w64 (now + h)) (w64 (now + w64 (h.tdiv 3)))
          else nextT n h t now (w64 (now + 1)) (w64 (now + h)) (w64 (now + w64 (h.tdiv 3)))
        else .fail
      else
        bif goesB (est h ex al) 5 now then bif h == 0 then .fail else
          bif decide (w64 (now - last) > third h) then .ret (.tup [.int .i64 1]) [(0, some (.cells 29 (Ses.cs (est h (w64 (now + h)) al))))]
          else nextT n h t last (w64 (now + 1)) (w64 (now + h)) al
        else .fail
    else .fail
  else .ret (.tup [.int .i64 2]) [] := by kernel_rfl
end Go.Proofs.Ytbeolnccdhjjeaa
/- FsmCalls. -/
namespace Go.Proofs.Ytbeolnccdhjjeaa
open Go.Am
set_option maxRecDepth 100000
theorem bif_ind {α : Type} {Q : α → Prop} (b : Bool) {x y : α} (h1 : Q x) (h2 : Q y) : Q (bif b then x else y) := by cases b <;> assumption
/-- The actions of a step are few, and their lists are those of the message or empty. -/
def Small (m : Msg) (p : Ses × List Act) : Prop := p.2.length ≤ 3 ∧ ∀ a ∈ p.2, a.m = m ∨ (a.m.path = [] ∧ a.m.cl = [] ∧ a.m.cm = [] ∧ a.m.reach = [] ∧ a.m.un = [])
theorem small_nil (m : Msg) (s : Ses) : Small m (s, []) := ⟨by simp, fun a h => by cases h⟩
theorem small_leave {m : Msg} (s s' : Ses) (r : Int) {l : List Act} (hl : l.length ≤ 2) (h : ∀ a ∈ l, a.m = m ∨ (a.m.path = [] ∧ a.m.cl = [] ∧ a.m.cm = [] ∧ a.m.reach = [] ∧ a.m.un = [])) : Small m (s', l ++ downL s r) := by
  unfold downL
  cases s.ph == 4 with
  | true =>
    refine ⟨by simp; omega, fun a ha => ?_⟩
    simp only [cond_true, List.mem_append, List.mem_singleton] at ha
    rcases ha with ha | rfl
    · exact h a ha
    · exact .inr ⟨rfl, rfl, rfl, rfl, rfl⟩
  | false => exact ⟨by simp; omega, fun a ha => h a (by simpa using ha)⟩
theorem small_one {m : Msg} {s : Ses} {a : Act} (h : a.m = m ∨ (a.m.path = [] ∧ a.m.cl = [] ∧ a.m.cm = [] ∧ a.m.reach = [] ∧ a.m.un = [])) : Small m (s, [a]) := ⟨by simp, fun b hb => by simp at hb; subst hb; exact h⟩
theorem small_fail {m : Msg} (s s' : Ses) (r code sub : Int) : Small m (s', [send { msg0 with kind := 3, code := code, sub := sub }, plain 3] ++ downL s r) := small_leave s s' r (by simp) (fun a ha => by
  simp only [List.mem_cons, List.not_mem_nil, or_false] at ha
  rcases ha with rfl | rfl <;> exact .inr ⟨rfl, rfl, rfl, rfl, rfl⟩)
theorem small_lv0 {m : Msg} (s s' : Ses) (r : Int) : Small m (s', [] ++ downL s r) := small_leave s s' r (by simp) (fun a ha => by cases ha)
theorem small_lv1 {m : Msg} (s s' : Ses) (r : Int) : Small m (s', [plain 3] ++ downL s r) := small_leave s s' r (by simp) (fun a ha => by simp at ha; subst ha; exact .inr ⟨rfl, rfl, rfl, rfl, rfl⟩)
theorem small_step (s : Ses) (k : Int) (m : Msg) (now : Int) : Small m (stepP s k m now) := by
  unfold stepP
  refine bif_ind _ ?_ (small_nil m s)
  unfold stepG laterG
  simp only [leaveG_eq, failG_eq, setRetryG_eq, setHoldG_eq, setAliveG_eq]
  repeat' (first
    | exact small_nil m _
    | exact small_fail _ _ _ _ _
    | exact small_lv0 _ _ _
    | exact small_lv1 _ _ _
    | exact small_one (.inr ⟨rfl, rfl, rfl, rfl, rfl⟩)
    | exact small_one (.inl rfl)
    | apply bif_ind)
theorem size_of {m : Msg} (h : lightM m = true) : sizeM m = true := by
  unfold lightM at h
  simp only [and2_eq, Bool.and_eq_true, decide_eq_true_eq] at h
  obtain ⟨⟨⟨⟨h1, h2⟩, h3⟩, h4⟩, h5⟩ := h
  simp only [sizeM, sizeA, Bool.and_eq_true]
  refine ⟨⟨⟨⟨?_, ?_⟩, ?_⟩, ?_⟩, ?_⟩ <;> exact sameI_iff.2 ⟨rfl, by omega, by omega, by omega⟩
theorem size_nil {m : Msg} (h : m.path = [] ∧ m.cl = [] ∧ m.cm = [] ∧ m.reach = [] ∧ m.un = []) : sizeM m = true := by
  obtain ⟨h1, h2, h3, h4, h5⟩ := h
  simp only [sizeM, sizeA, Bool.and_eq_true, h1, h2, h3, h4, h5]
  refine ⟨⟨⟨⟨?_, ?_⟩, ?_⟩, ?_⟩, ?_⟩ <;> exact sameI_iff.2 ⟨rfl, by omega, by simp, by simp⟩
theorem msgAt_v (a : Act) : msgAt a.v = a.m := rfl
theorem acts_ok (s : Ses) (k : Int) {m : Msg} (now : Int) (h : lightM m = true) : actI ((stepP s k m now).2.map Act.v) ((stepP s k m now).2.map Act.v) (stepP s k m now).2.length (stepP s k m now).2.length 0 = true := by
  have hs := small_step s k m now
  generalize stepP s k m now = p at hs ⊢
  simp only [actI, Bool.and_eq_true, decide_eq_true_eq, List.length_map, List.all_eq_true, and_self, and_true, true_and]
  refine ⟨sameI_iff.2 ⟨rfl, by omega, by simp, by simp; have := hs.1; omega⟩, fun v hv => ?_⟩
  simp only [List.mem_map] at hv
  obtain ⟨a, ha, rfl⟩ := hv
  rw [msgAt_v]
  rcases hs.2 a ha with h1 | h1
  · rw [h1]; exact size_of h
  · exact size_nil h1

/-- The event and the time at an index. -/
abbrev kindAt (es : List SV) (i : Int) : Int := asI (cellAt (es.getD i.toNat .junk) 0)
abbrev evMsg (es : List SV) (i : Int) : Msg := msgAt (es.getD i.toNat .junk)
abbrev timeAt (ts : List SV) (i : Int) : Int := asI (ts.getD i.toNat .junk)
noncomputable def stepAt (es ts : List SV) (i : Int) (s : Ses) : Ses × List Act := stepP s (kindAt es i) (evMsg es i) (timeAt ts i)
/-- The sessions behind so many events. -/
noncomputable def runS : Nat → List SV → List SV → Int → Ses → Ses
  | 0, _, _, _, s => s
  | n + 1, es, ts, i, s => runS n es ts (i + 1) (stepAt es ts i s).1
noncomputable def κk := tbl [(15, stepC stepL_s), (17, stepC stepL_s), (16, event_s), (18, acts_s)]
theorem okk : KOk Try.prog κk := tbl_cons stepL_k (tbl_cons refL_k (tbl_cons event_k (tbl_cons acts_k ok0)))
noncomputable abbrev κko := openT Try.prog κk 300 5
noncomputable abbrev ιk : Nat → Bool := fun g => inl κk g && hasBody Try.prog g
noncomputable def body3 : Code := Try.f3.body.getD .skip
noncomputable def c3 : Code := (loopAt 11 body3).getD .skip
abbrev sesC (s : Ses) : Chunk := .cells 29 s.cs
def sesOf (cs : List SV) : Ses := ⟨asI (cs.getD 0 .junk), asI (cs.getD 1 .junk), asI (cs.getD 2 .junk), asI (cs.getD 3 .junk), asI (cs.getD 4 .junk), asI (cs.getD 5 .junk), asI (cs.getD 6 .junk), asB (cs.getD 7 .junk), asB (cs.getD 8 .junk), asI (cs.getD 9 .junk), asI (cs.getD 10 .junk), asI (cs.getD 11 .junk), asI (cs.getD 12 .junk), asB (cs.getD 13 .junk), asI (cs.getD 14 .junk), asI (cs.getD 15 .junk), asI (cs.getD 16 .junk), asI (cs.getD 17 .junk)⟩
theorem sesOf_cs (s : Ses) : sesOf s.cs = s := rfl
open Classical in
noncomputable def eqL (xs ys : List SV) : Bool := decide (xs = ys)
theorem eqL_iff {a b : List SV} : eqL a b = true ↔ a = b := by simp [eqL]
theorem eqL_refl (a : List SV) : eqL a a = true := eqL_iff.2 rfl
noncomputable def callsI (es ts : List SV) (i : Int) (c0 c1 c2 c3 : List SV) : Bool := evsB es && decide (es.length ≤ ts.length) && decide (0 ≤ i) && decide (i ≤ es.length) && eqL c0 (sesOf c0).cs && eqL c1 (sesOf c1).cs && eqL c2 c1 && eqL c3 c0
noncomputable def callsR (n : Nat) (es ts : List SV) (i : Int) (s a : Ses) : List (Nat × Option Chunk) := [(3, some (sesC (runS n es ts i s))), (0, some (sesC (runS n es ts i s))), (2, some (sesC (runS n es ts i a))), (1, some (sesC (runS n es ts i a)))]
noncomputable def callsL : CSumm
  | [.psl 52 es, .psl 3 ts, .ptr 0 0, .ptr 1 0, .ptr 2 0, .ptr 3 0, .int .i64 i], [(0, .cells 29 c0), (1, .cells 29 c1), (2, .cells 29 c2), (3, .cells 29 c3)] =>
    .ite (callsI es ts i c0 c1 c2 c3) (.ite (leftL es i == 0) (.ret (.tup [.int .i64 2]) []) (.ret (.tup [.int .i64 2]) [(3, some (sesC (runS (leftL es i) es ts i (sesOf c0)))), (0, some (sesC (runS (leftL es i) es ts i (sesOf c0)))), (2, some (sesC (runS (leftL es i) es ts i (sesOf c1)))), (1, some (sesC (runS (leftL es i) es ts i (sesOf c1))))])) .fail
  | _, _ => .fail
def callsM : List SV → HpL → Nat
  | [.psl _ es, .psl _ _, .ptr 0 0, .ptr 1 0, .ptr 2 0, .ptr 3 0, .int .i64 i], _ => leftL es i
  | _, _ => 0
noncomputable def e3 : LEnt := { ins := [2, 3, 5, 9, 11, 13, 14], outs := [], keep := [], size := 152, code := c3, s := callsL }
noncomputable def nextK (N : Nat) (es ts : List SV) (i : Int) (s a : Ses) : CTree :=
  bif Nat.blt (leftL es i) N then bif callsI es ts i s.cs a.cs a.cs s.cs then
    bif leftL es i == 0 then .ret (.tup [.int .i64 2]) [(3, some (sesC s)), (0, some (sesC s)), (2, some (sesC a)), (1, some (sesC a))]
    else .ret (.tup [.int .i64 2]) [(3, some (sesC (runS (leftL es i) es ts i (sesOf s.cs)))), (0, some (sesC (runS (leftL es i) es ts i (sesOf s.cs)))), (2, some (sesC (runS (leftL es i) es ts i (sesOf a.cs)))), (1, some (sesC (runS (leftL es i) es ts i (sesOf a.cs))))] else .fail else .fail
abbrev LA (p : Ses × List Act) : List SV := p.2.map Act.v
theorem round3 (N : Nat) (es ts : List SV) (i : Int) (s a : Ses) : loopOnce Try.prog κko ιk (ltab []) true 300 e3 { e3 with s := boundT callsM callsL N } c3 [.psl 52 es, .psl 3 ts, .ptr 0 0, .ptr 1 0, .ptr 2 0, .ptr 3 0, .int .i64 i] [(0, sesC s), (1, sesC a), (2, sesC a), (3, sesC s)] =
  bif decide (i < (es.length : Int)) then
    bif inB i es.length then bif lightB (evMsg es i) then bif inB i ts.length then bif lightB (evMsg es i) then
    bif inB i es.length then bif inB i ts.length then bif lightB (evMsg es i) then
    bif inB i es.length then bif lightB (evMsg es i) then bif inB i ts.length then bif lightB (evMsg es i) then
    bif inB i es.length then bif inB i ts.length then bif lightB (evMsg es i) then
      bif !sameS (stepAt es ts i a).1 (stepAt es ts i a).1 then .ret (.tup [.int .i64 1]) [] else bif !sameS (stepAt es ts i s).1 (stepAt es ts i s).1 then .ret (.tup [.int .i64 1]) [] else
      bif actI (LA (stepAt es ts i a)) (LA (stepAt es ts i a)) (stepAt es ts i a).2.length (stepAt es ts i a).2.length 0 then
      bif actI (LA (stepAt es ts i s)) (LA (stepAt es ts i s)) (stepAt es ts i s).2.length (stepAt es ts i s).2.length 0 then
        nextK N es ts (w64 (i + 1)) (stepAt es ts i s).1 (stepAt es ts i a).1
      else .fail else .fail
    else .fail else .fail else .fail else .fail else .fail else .fail else .fail else .fail else .fail else .fail else .fail else .fail else .fail else .fail
  else .ret (.tup [.int .i64 2]) [] := by kernel_rfl
end Go.Proofs.Ytbeolnccdhjjeaa
/- FsmSafe: the loop over the actions. -/
namespace Go.Proofs.Ytbeolnccdhjjeaa
open Go.Am
set_option maxRecDepth 100000
noncomputable def body4 : Code := Try.f4.body.getD .skip
noncomputable def c4i : Code := (loopAt 16 body4).getD .skip
noncomputable def sameB (m : Msg) (m' : Msg) : Bool := eqV m'.v m.v && isM m'.v
/-- What the actions from the k-th on make of 'up'. -/
noncomputable def runV (m : Msg) : Nat → List SV → Int → Bool → Option Bool
  | 0, _, _, up => some up
  | n + 1, xs, k, up =>
    bif asI (cellAt (xs.getD (0 + k.toNat) .junk) 0) == 4 then bif up then none else runV m n xs (k + 1) true
    else bif asI (cellAt (xs.getD (0 + k.toNat) .junk) 0) == 5 then bif !up || decide (asI (cellAt (xs.getD (0 + k.toNat) .junk) 26) < 1) || decide (asI (cellAt (xs.getD (0 + k.toNat) .junk) 26) > 5) then none else runV m n xs (k + 1) false
    else bif asI (cellAt (xs.getD (0 + k.toNat) .junk) 0) == 6 then bif !up || !sameB m (msgAt (xs.getD (0 + k.toNat) .junk)) then none else runV m n xs (k + 1) up
    else runV m n xs (k + 1) up
noncomputable def iI (es : List SV) (up : Bool) (i : Int) (n : Int) (k : Int) (xs : List SV) : Bool := decide (n = xs.length) && decide (xs.length ≤ 1000000) && decide (0 ≤ k) && decide (k ≤ xs.length) && inB i es.length && (runV (evMsg es i) (leftL xs k) xs k up).isSome
noncomputable def iL : CSumm
  | [.psl 52 es, .bool up, .int .i64 i, .qs 0 27 0 n, .int .i64 k], [(0, .seq 57 xs)] => .ite (iI es up i n k xs) (.ret (.tup [.int .i64 4, .psl 52 es, .bool ((runV (evMsg es i) (leftL xs k) xs k up).getD false), .int .i64 i]) []) .fail
  | _, _ => .fail
def iM : List SV → HpL → Nat
  | [.psl _ _, .bool _, .int .i64 _, .qs 0 27 0 _, .int .i64 k], [(0, .seq 57 xs)] => leftL xs k
  | _, _ => 0
noncomputable def e4i : LEnt := { ins := [1, 9, 10, 13, 14], outs := [1, 9, 10], keep := [2, 3, 7, 11], size := 150, code := c4i, s := iL }
noncomputable def nextI (N : Nat) (es : List SV) (up : Bool) (i : Int) (n : Nat) (k : Int) (xs : List SV) : CTree :=
  bif Nat.blt (leftL xs k) N then bif iI es up i n k xs then .ret (.tup [.int .i64 4, .psl 52 es, .bool ((runV (evMsg es i) (leftL xs k) xs k up).getD false), .int .i64 i]) [] else .fail else .fail
abbrev xAt (xs : List SV) (k : Int) : SV := xs.getD (0 + k.toNat) .junk
theorem round4i (N : Nat) (es : List SV) (up : Bool) (i : Int) (n : Nat) (k : Int) (xs : List SV) : loopOnce Try.prog κaco ιac (ltab []) true 300 e4i { e4i with s := boundT iM iL N } c4i [.psl 52 es, .bool up, .int .i64 i, .qs 0 27 0 n, .int .i64 k] [(0, .seq 57 xs)] =
  bif decide (k < (n : Int)) then bif inB k n then bif decide (0 + k.toNat < xs.length) then
    bif asI (cellAt (xAt xs k) 0) == 4 then bif up then .ret (.tup [.int .i64 1, .psl 52 es, .bool up, .int .i64 i]) [] else nextI N es true i n (w64 (k + 1)) xs
    else bif asI (cellAt (xAt xs k) 0) == 5 then
      bif !up then .ret (.tup [.int .i64 1, .psl 52 es, .bool up, .int .i64 i]) [] else bif inB k n then bif decide (0 + k.toNat < xs.length) then
        bif decide (asI (cellAt (xAt xs k) 26) < 1) then .ret (.tup [.int .i64 1, .psl 52 es, .bool up, .int .i64 i]) [] else bif inB k n then bif decide (0 + k.toNat < xs.length) then
          bif decide (asI (cellAt (xAt xs k) 26) > 5) then .ret (.tup [.int .i64 1, .psl 52 es, .bool up, .int .i64 i]) [] else nextI N es false i n (w64 (k + 1)) xs
        else .fail else .fail
      else .fail else .fail
    else bif asI (cellAt (xAt xs k) 0) == 6 then
      bif !up then .ret (.tup [.int .i64 1, .psl 52 es, .bool up, .int .i64 i]) [] else bif inB k n then bif decide (0 + k.toNat < xs.length) then bif inB i es.length then
        bif eqV (msgAt (xAt xs k)).v (evMsg es i).v && isM (msgAt (xAt xs k)).v then nextI N es up i n (w64 (k + 1)) xs else .fail
      else .fail else .fail else .fail
    else nextI N es up i n (w64 (k + 1)) xs
  else .fail else .fail
  else .ret (.tup [.int .i64 4, .psl 52 es, .bool up, .int .i64 i]) [] := by kernel_rfl
theorem iI_iff {es : List SV} {up : Bool} {i n k : Int} {xs : List SV} : iI es up i n k xs = true ↔ n = xs.length ∧ xs.length ≤ 1000000 ∧ 0 ≤ k ∧ k ≤ xs.length ∧ inB i es.length = true ∧ (runV (evMsg es i) (leftL xs k) xs k up).isSome = true := by
  simp only [iI, Bool.and_eq_true, decide_eq_true_eq, and_assoc]
theorem runV_succ (m : Msg) (n : Nat) (xs : List SV) (k : Int) (up : Bool) : runV m (n + 1) xs k up =
    bif asI (cellAt (xAt xs k) 0) == 4 then bif up then none else runV m n xs (k + 1) true
    else bif asI (cellAt (xAt xs k) 0) == 5 then bif !up || decide (asI (cellAt (xAt xs k) 26) < 1) || decide (asI (cellAt (xAt xs k) 26) > 5) then none else runV m n xs (k + 1) false
    else bif asI (cellAt (xAt xs k) 0) == 6 then bif !up || !sameB m (msgAt (xAt xs k)) then none else runV m n xs (k + 1) up
    else runV m n xs (k + 1) up := rfl
theorem nextI_run {N : Nat} {es : List SV} {up : Bool} {i : Int} {n : Nat} {k : Int} {xs : List SV} (hb : leftL xs k < N) (hi : iI es up i n k xs = true) :
    crun (nextI N es up i n k xs) = some (.tup [.int .i64 4, .psl 52 es, .bool ((runV (evMsg es i) (leftL xs k) xs k up).getD false), .int .i64 i], []) := by
  unfold nextI
  have : Nat.blt (leftL xs k) N = true := by rw [Nat.blt_eq]; exact hb
  rw [this, hi]
  rfl
theorem inner_valid : ValidL Try.prog e4i := loop_valid (κ := κaco) (ι := ιac) (T := ltab []) (sp := true) (fuel := 300) (c := c4i) (μ := iM) (openT_ok noNumTry mixTry okac 300 5) mixTry ltab_nil (show fillC (ltab []) c4i = c4i by kernel_rfl) (by
  intro N args H r hb hr
  have hr' : crun (iL args H) = some r := hr
  unfold iL at hr'
  split at hr'
  · rename_i es up i n k xs
    rw [crun_ite] at hr'
    cases hc : iI es up i n k xs with
    | false => rw [hc] at hr'; cases hr'
    | true =>
      rw [hc, cond_true] at hr'
      obtain ⟨hn, hl, h0, h1, hin, hs⟩ := iI_iff.1 hc
      rw [← hr']
      refine (congrArg crun (round4i N es up i n k xs)).trans ?_
      have hb' : leftL xs k < N + 1 := by
        have : Nat.blt (leftL xs k) (N + 1) = true := hb
        rwa [Nat.blt_eq] at this
      by_cases hlt : k < xs.length
      · obtain ⟨mm, hm⟩ : ∃ m, leftL xs k = m + 1 := ⟨leftL xs k - 1, by unfold leftL; omega⟩
        have hm' : leftL xs (k + 1) = mm := by unfold leftL at hm ⊢; omega
        have w1 : w64 (k + 1) = k + 1 := w64_id (by omega) (by omega)
        have hik : inB k n = true := by unfold inB; simp; omega
        have hkl : decide (0 + k.toNat < xs.length) = true := by simp; omega
        have hkn : decide (k < (n : Int)) = true := by simp; omega
        rw [hm, runV_succ] at hs ⊢
        rw [hkn, hik, hkl, w1, hin]
        simp only [cond_true]
        have key : ∀ up', (runV (evMsg es i) mm xs (k + 1) up').isSome = true → crun (nextI N es up' i n (k + 1) xs) = crun (.ret (.tup [.int .i64 4, .psl 52 es, .bool ((runV (evMsg es i) mm xs (k + 1) up').getD false), .int .i64 i]) []) := by
          intro up' hup
          have := nextI_run (N := N) (es := es) (up := up') (i := i) (n := n) (k := k + 1) (xs := xs) (by omega) (iI_iff.2 ⟨hn, hl, by omega, by omega, hin, by rw [hm']; exact hup⟩)
          rw [this, hm']
          rfl
        revert hs
        cases asI (cellAt (xAt xs k) 0) == 4 with
        | true =>
          simp only [cond_true]
          cases up with
          | true => intro hs; cases hs
          | false => intro hs; exact key true hs
        | false =>
          cases asI (cellAt (xAt xs k) 0) == 5 with
          | true =>
            simp only [cond_true, cond_false]
            cases up with
            | false => intro hs; cases hs
            | true =>
              cases decide (asI (cellAt (xAt xs k) 26) < 1) with
              | true => intro hs; cases hs
              | false =>
                cases decide (asI (cellAt (xAt xs k) 26) > 5) with
                | true => intro hs; cases hs
                | false => intro hs; exact key false hs
          | false =>
            cases asI (cellAt (xAt xs k) 0) == 6 with
            | true =>
              simp only [cond_true, cond_false]
              cases up with
              | false => intro hs; cases hs
              | true =>
                unfold sameB
                cases (eqV (msgAt (xAt xs k)).v (evMsg es i).v && isM (msgAt (xAt xs k)).v) with
                | false => intro hs; cases hs
                | true => intro hs; exact key true hs
            | false => intro hs; exact key up hs
      · have hz : leftL xs k = 0 := by unfold leftL; omega
        rw [show decide (k < (n : Int)) = false by simp; omega, hz]
        rfl
  · cases hr')
/-- On the actions of a step: what the plain law says. -/
theorem runV_acts (m : Msg) : ∀ (n : Nat) (l : List Act) (k : Int) (up : Bool), 0 ≤ k → leftL (l.map Act.v) k = n → runV m n (l.map Act.v) k up = runActs (fun m' => sameB m m') up (l.drop k.toNat)
  | 0, l, k, up, h0, hn => by
    have : l.drop k.toNat = [] := by
      rw [List.drop_eq_nil_iff]
      unfold leftL at hn
      rw [List.length_map] at hn
      omega
    rw [this]
    rfl
  | n + 1, l, k, up, h0, hn => by
    have hk : k.toNat < l.length := by
      unfold leftL at hn
      rw [List.length_map] at hn
      omega
    have hx : xAt (l.map Act.v) k = (l[k.toNat]).v := by
      unfold xAt
      rw [Nat.zero_add, List.getD_eq_getElem?_getD, List.getElem?_map, List.getElem?_eq_getElem hk]
      rfl
    have hd : l.drop k.toNat = l[k.toNat] :: l.drop (k + 1).toNat := by
      rw [List.drop_eq_getElem_cons hk]
      congr 2
      omega
    have ih : ∀ up, runV m n (l.map Act.v) (k + 1) up = runActs (fun m' => sameB m m') up (l.drop (k + 1).toNat) := fun up => runV_acts m n l (k + 1) up (by omega) (by unfold leftL at hn ⊢; omega)
    rw [runV_succ, hx, hd]
    generalize l[k.toNat] = a at *
    have e0 : asI (cellAt a.v 0) = a.kind := rfl
    have e26 : asI (cellAt a.v 26) = a.reason := rfl
    rw [e0, e26, msgAt_v, ih, ih, ih]
    simp only [runActs]
    simp only [Bool.cond_eq_ite]
theorem runV_step (s : Ses) (k : Int) (m : Msg) (now : Int) (hs : s.ok = true) (hm : lightM m = true) :
    runV m (leftL ((stepP s k m now).2.map Act.v) 0) ((stepP s k m now).2.map Act.v) 0 (s.ph == 4) = some ((stepP s k m now).1.ph == 4) := by
  rw [runV_acts m _ _ 0 _ (by omega) rfl]
  have hp := (post_stepP (s := s) (k := k) (m := m) (now := now) hs (light_ok hm)).run (fun m' => sameB m m') (by
    unfold sameB
    rw [eqV_refl, isM_iff.2 ⟨m, rfl, size_of hm⟩]
    rfl)
  exact hp
end Go.Proofs.Ytbeolnccdhjjeaa
/- FsmCalls: the loop is known; the law. -/
namespace Go.Proofs.Ytbeolnccdhjjeaa
open Go.Am
set_option maxRecDepth 100000
theorem callsI_iff {es ts : List SV} {i : Int} {c0 c1 c2 c3 : List SV} : callsI es ts i c0 c1 c2 c3 = true ↔ evsB es = true ∧ es.length ≤ ts.length ∧ 0 ≤ i ∧ i ≤ es.length ∧ c0 = (sesOf c0).cs ∧ c1 = (sesOf c1).cs ∧ c2 = c1 ∧ c3 = c0 := by
  simp only [callsI, Bool.and_eq_true, decide_eq_true_eq, eqL_iff, and_assoc]
theorem nextK_run {N : Nat} {es ts : List SV} {i : Int} {s a : Ses} (hb : leftL es i < N) (he : evsB es = true) (hl : es.length ≤ ts.length) (h0 : 0 ≤ i) (h1 : i ≤ es.length) :
    crun (nextK N es ts i s a) = some (.tup [.int .i64 2], callsR (leftL es i) es ts i s a) := by
  unfold nextK
  have : Nat.blt (leftL es i) N = true := by rw [Nat.blt_eq]; exact hb
  rw [this, callsI_iff.2 ⟨he, hl, h0, h1, rfl, rfl, rfl, rfl⟩]
  simp only [cond_true]
  cases hz : (leftL es i == 0) with
  | false => rfl
  | true =>
    rw [beq_iff_eq] at hz
    rw [hz]
    rfl
theorem calls_valid : ValidL Try.prog e3 := loop_valid (κ := κko) (ι := ιk) (T := ltab []) (sp := true) (fuel := 300) (c := c3) (μ := callsM) (openT_ok noNumTry mixTry okk 300 5) mixTry ltab_nil (show fillC (ltab []) c3 = c3 by kernel_rfl) (by
  intro N args H r hb hr
  have hr' : crun (callsL args H) = some r := hr
  unfold callsL at hr'
  split at hr'
  · rename_i es ts i c0 c1 c2 c3
    rw [crun_ite] at hr'
    cases hc : callsI es ts i c0 c1 c2 c3 with
    | false => rw [hc] at hr'; cases hr'
    | true =>
      rw [hc, cond_true] at hr'
      obtain ⟨he, hl, h0, h1, e0, e1, rfl, rfl⟩ := callsI_iff.1 hc
      rw [← hr']
      generalize hs : sesOf c3 = s at e0
      generalize ha : sesOf c2 = a at e1
      subst e0
      subst e1
      refine (congrArg crun (round3 N es ts i s a)).trans ?_
      have hb' : leftL es i < N + 1 := by
        have : Nat.blt (leftL es i) (N + 1) = true := hb
        rwa [Nat.blt_eq] at this
      have hlen := evs_len he
      by_cases hlt : i < es.length
      · obtain ⟨m, hm⟩ : ∃ m, leftL es i = m + 1 := ⟨leftL es i - 1, by unfold leftL; omega⟩
        have hm' : leftL es (i + 1) = m := by unfold leftL at hm ⊢; omega
        have w1 : w64 (i + 1) = i + 1 := w64_id (by omega) (by omega)
        have hin : inB i es.length = true := by unfold inB; simp; omega
        have hin2 : inB i ts.length = true := by unfold inB; simp; omega
        have hli := evs_at he h0 hlt
        rw [decide_eq_true hlt, hin, hin2, light_ok hli, w1, sameS_refl, sameS_refl, show actI (LA (stepAt es ts i a)) (LA (stepAt es ts i a)) (stepAt es ts i a).2.length (stepAt es ts i a).2.length 0 = true from acts_ok _ _ _ hli,
          show actI (LA (stepAt es ts i s)) (LA (stepAt es ts i s)) (stepAt es ts i s).2.length (stepAt es ts i s).2.length 0 = true from acts_ok _ _ _ hli]
        simp only [cond_true, cond_false, Bool.not_true]
        rw [nextK_run (by omega) he hl (by omega) (by omega), hm']
        have hne : (leftL es i == 0) = false := by rw [hm]; rfl
        rw [crun_ite, hne, hm]
        rfl
      · have hz : leftL es i = 0 := by unfold leftL; omega
        rw [show decide (i < (es.length : Int)) = false by simp; omega, hz]
        rfl
  · cases hr')
noncomputable def κ3 := tbl [(9, lives_s), (10, evs_s), (11, new_s), (12, new_s), (13, valid_s), (14, valid_s)]
theorem ok3 : KOk Try.prog κ3 := tbl_cons lives_k (tbl_cons evs_k (tbl_cons new_k (tbl_cons rnew_k (tbl_cons valid_k (tbl_cons rvalid_k ok0)))))
noncomputable abbrev κ3o := openT Try.prog κ3 300 5
noncomputable abbrev ι3 : Nat → Bool := fun g => inl κ3 g && hasBody Try.prog g
noncomputable abbrev T3 : LTab := ltab [("s", e3)]
noncomputable def m3 : Code := markC [(11, "s")] body3
theorem fill3 : Try.f3.body = some (fillC T3 m3) := by kernel_rfl
noncomputable abbrev law3 : CSumm := bodyCL Try.prog κ3o ι3 T3 true 300 Try.f3 m3
theorem law3_k : Known Try.prog 3 law3 := ⟨⟨Try.f3, Try.func3, noNum_at noNumTry Try.func3, rfl⟩, bodyL_valid (openT_ok noNumTry mixTry ok3 300 5) mixTry (ltab_cons calls_valid ltab_nil) Try.func3 fill3⟩
abbrev cfgV (a b c d e f : Int) (g h : Bool) : SV := .agg [.int .u32 a, .int .u32 b, .int .u32 c, .int .i64 d, .int .i64 e, .int .i64 f, .bool g, .bool h]
theorem law3_t (a b c d e f : Int) (g h : Bool) (s : Ses) (es ts : List SV) : law3 [cfgV a b c d e f g h, s.v, .psl 52 es, .psl 3 ts] [] =
  bif decide (es.length ≤ 9223372036854775807) then bif !evsB es then .ret (.bool true) [] else bif decide ((ts.length : Int) < (es.length : Int)) then .ret (.bool true) [] else
    bif bif bif bif !sameS (newS a b c d e f g h) (newS a b c d e f g h) then true else (bif cfgOk b c d e f then (0 : Int) else 2) != bif cfgOk b c d e f then (0 : Int) else 2 then true else !(s.ok == s.ok) then true else !((newS a b c d e f g h).ok == (newS a b c d e f g h).ok) then .ret (.bool false) []
    else bif callsI es ts 0 s.cs (newS a b c d e f g h).cs (newS a b c d e f g h).cs s.cs then bif leftL es 0 == 0 then .ret (.bool true) [] else .ret (.bool true) [] else .fail
  else .fail := by kernel_rfl
theorem law3_true (a b c d e f : Int) (g h : Bool) (s : Ses) (es ts : List SV) (hl : es.length ≤ maxLen) : crun (law3 [cfgV a b c d e f g h, s.v, .psl 52 es, .psl 3 ts] []) = some (.bool true, []) := by
  rw [law3_t, sameS_refl]
  have hl' : es.length ≤ 9223372036854775807 := hl
  rw [decide_eq_true hl', cond_true]
  cases he : evsB es with
  | false => rfl
  | true =>
    simp only [Bool.not_true, cond_false]
    cases hd : decide ((ts.length : Int) < (es.length : Int)) with
    | true => rfl
    | false =>
      simp only [decide_eq_false_iff_not] at hd
      rw [callsI_iff.2 ⟨he, by omega, by omega, by omega, rfl, rfl, rfl, rfl⟩]
      simp only [bne_self_eq_false, beq_self_eq_true, Bool.not_true, cond_false, cond_true]
      cases leftL es 0 == 0 <;> rfl
theorem cfg_inv {v : SV} (hv : OkV Try.prog 25 v) : ∃ (a b c d e f : Int) (g h : Bool), v = cfgV a b c d e f g h ∧ True := by
  obtain ⟨cs, rfl, hh⟩ := hv.agg_inv (by kernel_rfl)
  clear hv
  rw [show leaves Try.prog 40 25 = [22, 23, 23, 3, 3, 3, 4, 4] by kernel_rfl] at hh
  obtain ⟨v0, cs, rfl, h0, hh⟩ := hh.cons_inv
  obtain ⟨v1, cs, rfl, h1, hh⟩ := hh.cons_inv
  obtain ⟨v2, cs, rfl, h2, hh⟩ := hh.cons_inv
  obtain ⟨v3, cs, rfl, h3, hh⟩ := hh.cons_inv
  obtain ⟨v4, cs, rfl, h4, hh⟩ := hh.cons_inv
  obtain ⟨v5, cs, rfl, h5, hh⟩ := hh.cons_inv
  obtain ⟨v6, cs, rfl, h6, hh⟩ := hh.cons_inv
  obtain ⟨v7, cs, rfl, h7, hh⟩ := hh.cons_inv
  obtain rfl := hh.nil_inv
  obtain ⟨a, rfl, -⟩ := h0.int_inv Try.underlying22
  obtain ⟨b, rfl, -⟩ := h1.int_inv Try.underlying23
  obtain ⟨c, rfl, -⟩ := h2.int_inv Try.underlying23
  obtain ⟨d, rfl, -⟩ := h3.int_inv Try.underlying3
  obtain ⟨e, rfl, -⟩ := h4.int_inv Try.underlying3
  obtain ⟨f, rfl, -⟩ := h5.int_inv Try.underlying3
  obtain ⟨g, rfl⟩ := h6.bool_inv Try.underlying4
  obtain ⟨h, rfl⟩ := h7.bool_inv Try.underlying4
  exact ⟨a, b, c, d, e, f, g, h, rfl, trivial⟩
end Go.Proofs.Ytbeolnccdhjjeaa
/- FsmSafe: the loop over the events. -/
namespace Go.Proofs.Ytbeolnccdhjjeaa
open Go.Am
set_option maxRecDepth 100000
noncomputable def c4 : Code := (loopAt 10 body4).getD .skip
abbrev cfgOf (s : Ses) : List SV := [.int .u32 s.asn, .int .u32 s.id, .int .u32 s.pe, .int .i64 s.ho, .int .i64 s.re, .int .i64 s.rs, .bool s.pas, .bool s.rsd]
noncomputable def safeI (es ts : List SV) (up : Bool) (i : Int) (cf c : List SV) : Bool := evsB es && decide (es.length ≤ ts.length) && decide (0 ≤ i) && decide (i ≤ es.length) && eqL c (sesOf c).cs && eqL cf (cfgOf (sesOf c)) && (sesOf c).ok && (up == ((sesOf c).ph == 4))
noncomputable def safeL : CSumm
  | [.psl 52 es, .psl 3 ts, .ptr 0 0, .ptr 1 0, .bool up, .int .i64 i], [(0, .cells 25 cf), (1, .cells 29 c)] =>
    .ite (safeI es ts up i cf c) (.ite (leftL es i == 0) (.ret (.tup [.int .i64 2]) []) (.ret (.tup [.int .i64 2]) [(1, some (sesC (runS (leftL es i) es ts i (sesOf c))))])) .fail
  | _, _ => .fail
def safeM : List SV → HpL → Nat
  | [.psl _ es, .psl _ _, .ptr 0 0, .ptr 1 0, .bool _, .int .i64 i], _ => leftL es i
  | _, _ => 0
noncomputable def e4 : LEnt := { ins := [1, 2, 3, 7, 9, 10], outs := [], keep := [], size := 150, code := c4, s := safeL }
noncomputable def κf := tbl [(13, valid_s), (15, stepC stepL_s), (16, event_s)]
theorem okf : KOk Try.prog κf := tbl_cons valid_k (tbl_cons stepL_k (tbl_cons event_k ok0))
noncomputable abbrev κfo := openT Try.prog κf 300 5
noncomputable abbrev ιf : Nat → Bool := fun g => inl κf g && hasBody Try.prog g
noncomputable abbrev T4i : LTab := ltab [("i", e4i)]
noncomputable def c4m : Code := markC [(16, "i")] c4
noncomputable def nextF (N : Nat) (es ts : List SV) (up : Bool) (i : Int) (cf : List SV) (s : Ses) : CTree :=
  bif Nat.blt (leftL es i) N then bif safeI es ts up i cf s.cs then
    bif leftL es i == 0 then .ret (.tup [.int .i64 2]) [(1, some (sesC s))] else .ret (.tup [.int .i64 2]) [(1, some (sesC (runS (leftL es i) es ts i (sesOf s.cs))))] else .fail else .fail
def cfgEq (a b : Ses) : Bool := a.asn == b.asn && (a.id == b.id && (a.pe == b.pe && (a.ho == b.ho && (a.re == b.re && (a.rs == b.rs && (a.pas == b.pas && a.rsd == b.rsd))))))
abbrev retF (s : Ses) : CTree := .ret (.tup [.int .i64 1]) [(1, some (sesC s))]
noncomputable abbrev upAt (es ts : List SV) (up : Bool) (i : Int) (s : Ses) : Bool := (runV (evMsg es i) (leftL (LA (stepAt es ts i s)) 0) (LA (stepAt es ts i s)) 0 up).getD false
theorem round4 (N : Nat) (es ts : List SV) (up : Bool) (i : Int) (s : Ses) : loopOnce Try.prog κfo ιf T4i true 300 e4 { e4 with s := boundT safeM safeL N } c4m [.psl 52 es, .psl 3 ts, .ptr 0 0, .ptr 1 0, .bool up, .int .i64 i] [(0, .cells 25 (cfgOf s)), (1, sesC s)] =
  bif decide (i < (es.length : Int)) then
    bif inB i es.length then bif lightB (evMsg es i) then bif inB i ts.length then bif lightB (evMsg es i) then
    bif iI es up i (stepAt es ts i s).2.length 0 (LA (stepAt es ts i s)) then
      bif !(upAt es ts up i s == ((stepAt es ts i s).1.ph == 4)) then retF (stepAt es ts i s).1 else bif !(stepAt es ts i s).1.ok then retF (stepAt es ts i s).1 else bif !cfgEq (stepAt es ts i s).1 s then retF (stepAt es ts i s).1 else
      bif s.ph == 0 then bif (stepAt es ts i s).1.ph != 0 then bif inB i es.length then bif kindAt es i != 1 then retF (stepAt es ts i s).1 else nextF N es ts (upAt es ts up i s) (w64 (i + 1)) (cfgOf s) (stepAt es ts i s).1 else .fail
        else nextF N es ts (upAt es ts up i s) (w64 (i + 1)) (cfgOf s) (stepAt es ts i s).1 else nextF N es ts (upAt es ts up i s) (w64 (i + 1)) (cfgOf s) (stepAt es ts i s).1
    else .fail
    else .fail else .fail else .fail else .fail
  else .ret (.tup [.int .i64 2]) [] := by kernel_rfl
theorem T4i_ok : LOk Try.prog T4i := ltab_cons inner_valid ltab_nil
theorem safeI_iff {es ts : List SV} {up : Bool} {i : Int} {cf c : List SV} : safeI es ts up i cf c = true ↔ evsB es = true ∧ es.length ≤ ts.length ∧ 0 ≤ i ∧ i ≤ es.length ∧ c = (sesOf c).cs ∧ cf = cfgOf (sesOf c) ∧ (sesOf c).ok = true ∧ up = ((sesOf c).ph == 4) := by
  simp only [safeI, Bool.and_eq_true, decide_eq_true_eq, eqL_iff, and_assoc, beq_iff_eq]
theorem nextF_run {N : Nat} {es ts : List SV} {up : Bool} {i : Int} {cf : List SV} {s : Ses} (hb : leftL es i < N) (h : safeI es ts up i cf s.cs = true) :
    crun (nextF N es ts up i cf s) = some (.tup [.int .i64 2], [(1, some (sesC (runS (leftL es i) es ts i s)))]) := by
  unfold nextF
  have : Nat.blt (leftL es i) N = true := by rw [Nat.blt_eq]; exact hb
  rw [this, h]
  simp only [cond_true]
  cases hz : (leftL es i == 0) with
  | false => rfl
  | true =>
    rw [beq_iff_eq] at hz
    rw [hz]
    rfl
theorem safe_valid : ValidL Try.prog e4 := loop_valid (κ := κfo) (ι := ιf) (T := T4i) (sp := true) (fuel := 300) (c := c4m) (μ := safeM) (openT_ok noNumTry mixTry okf 300 5) mixTry T4i_ok (show fillC T4i c4m = c4 by kernel_rfl) (by
  intro N args H r hb hr
  have hr' : crun (safeL args H) = some r := hr
  unfold safeL at hr'
  split at hr'
  · rename_i es ts up i cf c
    rw [crun_ite] at hr'
    cases hc : safeI es ts up i cf c with
    | false => rw [hc] at hr'; cases hr'
    | true =>
      rw [hc, cond_true] at hr'
      obtain ⟨he, hl, h0, h1, e0, e1, hok, hup⟩ := safeI_iff.1 hc
      rw [← hr']
      generalize hs : sesOf c = s at e0 e1 hok hup
      subst e0
      subst e1
      refine (congrArg crun (round4 N es ts up i s)).trans ?_
      have hb' : leftL es i < N + 1 := by
        have : Nat.blt (leftL es i) (N + 1) = true := hb
        rwa [Nat.blt_eq] at this
      have hlen := evs_len he
      by_cases hlt : i < es.length
      · obtain ⟨m, hm⟩ : ∃ m, leftL es i = m + 1 := ⟨leftL es i - 1, by unfold leftL; omega⟩
        have hm' : leftL es (i + 1) = m := by unfold leftL at hm ⊢; omega
        have w1 : w64 (i + 1) = i + 1 := w64_id (by omega) (by omega)
        have hin : inB i es.length = true := by unfold inB; simp; omega
        have hin2 : inB i ts.length = true := by unfold inB; simp; omega
        have hli := evs_at he h0 hlt
        have hpo : Post s (kindAt es i) (evMsg es i) (timeAt ts i) (stepAt es ts i s) := post_stepP hok (light_ok hli)
        have hrv : runV (evMsg es i) (leftL (LA (stepAt es ts i s)) 0) (LA (stepAt es ts i s)) 0 up = some ((stepAt es ts i s).1.ph == 4) := by rw [hup]; exact runV_step _ _ _ _ hok hli
        have hsm := (small_step s (kindAt es i) (evMsg es i) (timeAt ts i)).1
        have hsm' : (stepAt es ts i s).2.length ≤ 3 := hsm
        have hiI : iI es up i (stepAt es ts i s).2.length 0 (LA (stepAt es ts i s)) = true := iI_iff.2 ⟨by simp, by simp; omega, by omega, by simp, hin, by rw [hrv]; rfl⟩
        have hua : upAt es ts up i s = ((stepAt es ts i s).1.ph == 4) := by unfold upAt; rw [hrv]; rfl
        have hcf : cfgEq (stepAt es ts i s).1 s = true := by
          obtain ⟨a1, a2, a3, a4, a5, a6, a7, a8⟩ := hpo.cfg
          unfold cfgEq
          rw [a1, a2, a3, a4, a5, a6, a7, a8]
          simp
        have hcf2 : cfgOf s = cfgOf (stepAt es ts i s).1 := by
          obtain ⟨a1, a2, a3, a4, a5, a6, a7, a8⟩ := hpo.cfg
          unfold cfgOf
          rw [a1, a2, a3, a4, a5, a6, a7, a8]
        have nx : safeI es ts (upAt es ts up i s) (i + 1) (cfgOf s) (stepAt es ts i s).1.cs = true := safeI_iff.2 ⟨he, hl, by omega, by omega, rfl, hcf2, hpo.ok, hua⟩
        have hnext := nextF_run (N := N) (by omega) nx
        rw [hm'] at hnext
        rw [decide_eq_true hlt, hin, hin2, light_ok hli, w1, hiI, hcf, hpo.ok]
        have hq : (upAt es ts up i s == ((stepAt es ts i s).1.ph == 4)) = true := by rw [hua]; exact beq_self_eq_true _
        rw [hq]
        simp only [cond_true, cond_false, Bool.not_true]
        have hne : (leftL es i == 0) = false := by rw [hm]; rfl
        rw [crun_ite, hne, hm]
        have hfin : crun (nextF N es ts (upAt es ts up i s) (i + 1) (cfgOf s) (stepAt es ts i s).1) = some (.tup [.int .i64 2], [(1, some (sesC (runS (m + 1) es ts i s)))]) := hnext
        cases hp0 : (s.ph == 0) with
        | false => exact hfin
        | true =>
          simp only [cond_true]
          cases hp1 : ((stepAt es ts i s).1.ph != 0) with
          | false => exact hfin
          | true =>
            have hk1 : kindAt es i = 1 := hpo.idle (by simpa using hp0) (by simpa using hp1)
            rw [hk1]
            exact hfin
      · have hz : leftL es i = 0 := by unfold leftL; omega
        rw [show decide (i < (es.length : Int)) = false by simp; omega, hz]
        rfl
  · cases hr')
noncomputable def κ4 := tbl [(9, lives_s), (10, evs_s), (11, new_s), (13, valid_s)]
theorem ok4 : KOk Try.prog κ4 := tbl_cons lives_k (tbl_cons evs_k (tbl_cons new_k (tbl_cons valid_k ok0)))
noncomputable abbrev κ4o := openT Try.prog κ4 300 5
noncomputable abbrev ι4 : Nat → Bool := fun g => inl κ4 g && hasBody Try.prog g
noncomputable abbrev T4 : LTab := ltab [("s", e4)]
noncomputable def m4 : Code := markC [(10, "s")] body4
theorem fill4 : Try.f4.body = some (fillC T4 m4) := by kernel_rfl
noncomputable abbrev law4 : CSumm := bodyCL Try.prog κ4o ι4 T4 true 300 Try.f4 m4
theorem law4_k : Known Try.prog 4 law4 := ⟨⟨Try.f4, Try.func4, noNum_at noNumTry Try.func4, rfl⟩, bodyL_valid (openT_ok noNumTry mixTry ok4 300 5) mixTry (ltab_cons safe_valid ltab_nil) Try.func4 fill4⟩
def ses0 : Ses := ⟨0, 0, 0, 0, 0, 0, 0, false, false, 0, 0, 0, 0, false, 0, 0, 0, 0⟩
theorem law4_t (a b c d e f : Int) (g h : Bool) (es ts : List SV) : law4 [cfgV a b c d e f g h, .psl 52 es, .psl 3 ts] [] =
  bif decide (es.length ≤ 9223372036854775807) then bif !evsB es then .ret (.bool true) [] else bif decide ((ts.length : Int) < (es.length : Int)) then .ret (.bool true) [] else
    bif (bif cfgOk b c d e f then (0 : Int) else 2) != 0 then .ret (.bool (bif sameS (newS a b c d e f g h) ses0 then !(newS a b c d e f g h).ok else false)) []
    else bif safeI es ts false 0 [.int .u32 a, .int .u32 b, .int .u32 c, .int .i64 d, .int .i64 e, .int .i64 f, .bool g, .bool h] (newS a b c d e f g h).cs then bif leftL es 0 == 0 then .ret (.bool true) [] else .ret (.bool true) [] else .fail
  else .fail := by kernel_rfl
theorem law4_true (a b c d e f : Int) (g h : Bool) (es ts : List SV) (hl : es.length ≤ maxLen) : crun (law4 [cfgV a b c d e f g h, .psl 52 es, .psl 3 ts] []) = some (.bool true, []) := by
  rw [law4_t]
  have hl' : es.length ≤ 9223372036854775807 := hl
  rw [decide_eq_true hl', cond_true]
  cases he : evsB es with
  | false => rfl
  | true =>
    simp only [Bool.not_true, cond_false]
    cases hd : decide ((ts.length : Int) < (es.length : Int)) with
    | true => rfl
    | false =>
      simp only [decide_eq_false_iff_not] at hd
      cases hc : cfgOk b c d e f with
      | false =>
        have hn : newS a b c d e f g h = ses0 := by unfold newS; rw [hc]; rfl
        rw [hn, sameS_refl]
        rfl
      | true =>
        have hn : newS a b c d e f g h = ⟨0, a, b, c, d, e, f, g, h, 0, 0, 0, 0, false, 0, -1, -1, -1⟩ := by unfold newS; rw [hc]; rfl
        have hok : Ses.ok ⟨0, a, b, c, d, e, f, g, h, 0, 0, 0, 0, false, 0, -1, -1, -1⟩ = true := by
          rw [ok_iff]
          rw [cfgOk_eq] at hc
          exact ⟨hc, by simp, by simp, by show holdB 0 = true; decide, timer_off, timer_off, timer_off⟩
        have hsafe : safeI es ts false 0 [.int .u32 a, .int .u32 b, .int .u32 c, .int .i64 d, .int .i64 e, .int .i64 f, .bool g, .bool h] (Ses.cs ⟨0, a, b, c, d, e, f, g, h, 0, 0, 0, 0, false, 0, -1, -1, -1⟩) = true :=
          safeI_iff.2 ⟨he, by omega, by omega, by omega, rfl, rfl, hok, rfl⟩
        rw [hn, hsafe]
        simp only [cond_true, cond_false, bne_self_eq_false]
        cases leftL es 0 == 0 <;> rfl
end Go.Proofs.Ytbeolnccdhjjeaa
