/- FsmPair: the plain law: what the steps do that are met. -/
import Derived.Test.YtbeolnccdhjjeaaPart4
import Derived.Test.YtbeolnccdhjjeaaPart1
import Derived.Test.YtbeolnccdhjjeaaMachine8
set_option linter.unusedVariables false
set_option linter.unusedSimpArgs false
namespace Go.Proofs.Ytbeolnccdhjjeaa
open Go.Am
set_option maxRecDepth 100000
structure Cf where
 (id pe ho po re L : Int) (pas : Bool)
structure Cf.Ok (c : Cf) : Prop where
 i : c.id ≠ 0
 p : c.pe ≠ 0
 n : c.id ≠ c.pe
 h : 3 ≤ c.ho ∧ c.ho ≤ 300
 o : 3 ≤ c.po ∧ c.po ≤ 300
 r : 1 ≤ c.re ∧ c.re ≤ 300
 l : 6 ≤ c.L ∧ c.L ≤ 300
 e : c.L = bif decide (c.po < c.ho) then c.po else c.ho
def sE (c : Cf) (ph ex al : Int) : Ses := ⟨ph, 7, c.id, c.pe, c.ho, c.re, 0, c.pas, false, 7, c.po, c.pe, 0, false, c.L, ex, al, -1⟩
def s2 (c : Cf) : Ses := sQ 2 c.id c.pe c.ho c.re c.pas 30 (-1)
abbrev alM : Msg := { msg0 with kind := 4 }
theorem beq_no {a b : Int} (h : a ≠ b) : (a == b) = false := by simpa using h
theorem bne_yes {a b : Int} (h : a ≠ b) : (a != b) = true := by simpa using h
theorem goes_i {s : Ses} {k now : Int} (h1 : s.id ≠ 0) (h2 : s.pe ≠ 0) (h3 : s.id ≠ s.pe) (h4 : 3 ≤ s.ho ∧ s.ho ≤ 300) (h5 : 1 ≤ s.re ∧ s.re ≤ 300) (h6 : s.rs = 0) (h7 : 0 ≤ s.ph ∧ s.ph ≤ 4) (h8 : s.hold = 0 ∨ 3 ≤ s.hold ∧ s.hold ≤ 300)
  (h9 : s.ex = -1 ∨ 0 ≤ s.ex ∧ s.ex ≤ 10000) (h10 : s.al = -1 ∨ 0 ≤ s.al ∧ s.al ≤ 10000) (h11 : s.ret = -1 ∨ 0 ≤ s.ret ∧ s.ret ≤ 10000) (hn : 0 ≤ now ∧ now ≤ 2000) (hk : knownB k = true) : goesB s k now = true := by
 unfold goesB Ses.ok soundB
 rw [bne_yes h1, bne_yes h2, bne_yes h3, (holdB_iff _).2 (by omega), (holdB_iff _).2 (by omega), (timerB_iff _).2 (by omega), (timerB_iff _).2 (by omega), (timerB_iff _).2 (by omega), hk,
  decide_eq_true (show s.re ≥ 1 by omega), decide_eq_true (show s.re ≤ 65535 by omega), decide_eq_true (show s.rs ≥ 0 by omega), decide_eq_true (show s.rs ≤ 4095 by omega), decide_eq_true (show s.ph ≥ 0 by omega), decide_eq_true (show s.ph ≤ 4 by omega),
  decide_eq_true (show 0 ≤ now by omega), decide_eq_true (show now ≤ 1099511627776 by omega)]
 rfl
theorem goes_E {c : Cf} (hc : c.Ok) {ph ex al now k : Int} (hp : 0 ≤ ph ∧ ph ≤ 4) (he : 0 ≤ ex ∧ ex ≤ 10000) (ha : 0 ≤ al ∧ al ≤ 10000) (hn : 0 ≤ now ∧ now ≤ 2000) (hk : knownB k = true) : goesB (sE c ph ex al) k now = true :=
 goes_i hc.i hc.p hc.n hc.h hc.r rfl hp (.inr ⟨by have := hc.l; show 3 ≤ c.L; omega, hc.l.2⟩) (.inr he) (.inr ha) (.inl rfl) hn hk
theorem goes_2 {c : Cf} (hc : c.Ok) {now k : Int} (hn : 0 ≤ now ∧ now ≤ 2000) (hk : knownB k = true) : goesB (s2 c) k now = true :=
 goes_i hc.i hc.p hc.n hc.h hc.r rfl (show (0 : Int) ≤ 2 ∧ (2 : Int) ≤ 4 by decide) (.inl rfl) (.inr (show (0 : Int) ≤ 30 ∧ (30 : Int) ≤ 10000 by decide)) (.inl rfl) (.inl rfl) hn hk
theorem stepP_yes {s : Ses} {k : Int} {m : Msg} {now : Int} (h : goesB s k now = true) : stepP s k m now = stepG cond (s, []) s k m now Prod.mk := by
 unfold stepP; rw [h]; rfl
theorem due_no {t now : Int} (h : now < t) : dueB t now = false := by
 unfold dueB
 cases h1 : (t != -1) with
 | false => rfl
 | true => rw [cond_true]; exact decide_eq_false (by omega)
theorem due_m (now : Int) : dueB (-1) now = false := rfl
theorem due_yes {t now : Int} (h0 : 0 ≤ t) (h : t ≤ now) : dueB t now = true := by
 unfold dueB
 rw [bne_yes (show t ≠ -1 by omega), cond_true]; exact decide_eq_true h
theorem w_id {n : Int} (h1 : 0 ≤ n) (h2 : n ≤ 100000) : w64 n = n := w64_id (by omega) (by omega)
theorem div3 {c : Cf} (hc : c.Ok) : w64 (c.L.tdiv 3) = c.L / 3 := by
 have := hc.l
 rw [Int.tdiv_eq_ediv_of_nonneg (by omega)]
 exact w_id (by omega) (by omega)
theorem step_3 {c : Cf} (hc : c.Ok) {ex al now : Int} (he : 0 ≤ ex ∧ ex ≤ 10000) (ha : 0 ≤ al ∧ al ≤ 10000) (hn : 0 ≤ now ∧ now ≤ 2000) : stepP (sE c 3 ex al) 5 alM now = (sE c 4 (now + c.L) al, [⟨4, opnM c.po c.pe, 0⟩]) := by
 have hl := hc.l
 rw [stepP_yes (goes_E hc (by decide) he ha hn (by decide))]
 show (bif (c.L == 0) then (sE c 4 (-1) al, [(⟨4, opnM c.po c.pe, 0⟩ : Act)]) else (sE c 4 (w64 (now + c.L)) al, [⟨4, opnM c.po c.pe, 0⟩])) = _
 rw [beq_no (by omega), cond_false, w_id (by omega) (by omega)]
theorem step_4 {c : Cf} (hc : c.Ok) {ex al now : Int} (he : 0 ≤ ex ∧ ex ≤ 10000) (ha : 0 ≤ al ∧ al ≤ 10000) (hn : 0 ≤ now ∧ now ≤ 2000) : stepP (sE c 4 ex al) 5 alM now = (sE c 4 (now + c.L) al, []) := by
 have hl := hc.l
 rw [stepP_yes (goes_E hc (by decide) he ha hn (by decide))]
 show (bif (c.L == 0) then (sE c 4 (-1) al, ([] : List Act)) else (sE c 4 (w64 (now + c.L)) al, [])) = _
 rw [beq_no (by omega), cond_false, w_id (by omega) (by omega)]
theorem step_t0 {c : Cf} (hc : c.Ok) {ph ex al now : Int} (hp : ph = 3 ∨ ph = 4) (he : now < ex ∧ ex ≤ 10000) (ha : now < al ∧ al ≤ 10000) (hn : 0 ≤ now ∧ now ≤ 2000) : stepP (sE c ph ex al) 7 msg0 now = (sE c ph ex al, []) := by
 rw [stepP_yes (goes_E hc (by omega) (by omega) (by omega) hn (by decide))]
 have d1 := due_no he.1
 have d2 := due_no ha.1
 rcases hp with rfl | rfl
 · show (bif dueB ex now then _ else bif dueB al now then _ else (sE c 3 ex al, ([] : List Act))) = _
   rw [d1, d2]; rfl
 · show (bif dueB ex now then _ else bif dueB al now then _ else (sE c 4 ex al, ([] : List Act))) = _
   rw [d1, d2]; rfl
theorem step_t1 {c : Cf} (hc : c.Ok) {ph ex al now : Int} (hp : ph = 3 ∨ ph = 4) (he : now < ex ∧ ex ≤ 10000) (ha : 0 ≤ al ∧ al ≤ now) (hn : 0 ≤ now ∧ now ≤ 2000) : stepP (sE c ph ex al) 7 msg0 now = (sE c ph ex (now + c.L / 3), [send alM]) := by
 have hl := hc.l
 rw [stepP_yes (goes_E hc (by omega) (by omega) (by omega) hn (by decide))]
 have d1 := due_no he.1
 have d2 := due_yes ha.1 ha.2
 have w : w64 (now + w64 (c.L.tdiv 3)) = now + c.L / 3 := by rw [div3 hc]; exact w_id (by omega) (by omega)
 rcases hp with rfl | rfl
 · show (bif dueB ex now then _ else bif dueB al now then (sE c 3 ex (w64 (now + w64 (c.L.tdiv 3))), [send alM]) else (sE c 3 ex al, ([] : List Act))) = _
   rw [d1, d2, w]; rfl
 · show (bif dueB ex now then _ else bif dueB al now then (sE c 4 ex (w64 (now + w64 (c.L.tdiv 3))), [send alM]) else (sE c 4 ex al, ([] : List Act))) = _
   rw [d1, d2, w]; rfl
theorem step_20 {c : Cf} (hc : c.Ok) {now : Int} (hn : 0 ≤ now ∧ now < 30) : stepP (s2 c) 7 msg0 now = (s2 c, []) := by
 rw [stepP_yes (goes_2 hc (by omega) (by decide))]
 have d1 := due_no hn.2
 show (bif dueB 30 now then _ else bif dueB (-1) now then _ else (s2 c, ([] : List Act))) = _
 rw [d1, due_m]; rfl
theorem step_2 {c : Cf} (hc : c.Ok) {now : Int} (hn : 0 ≤ now ∧ now ≤ 2000) : stepP (s2 c) 5 (opnM c.po c.pe) now = (sE c 3 (now + c.L) (now + c.L / 3), [send alM]) := by
 have hl := hc.l
 have ho := hc.o
 rw [stepP_yes (goes_2 hc hn (by decide))]
 have w : w64 (now + w64 (c.L.tdiv 3)) = now + c.L / 3 := by rw [div3 hc]; exact w_id (by omega) (by omega)
 show (bif (c.pe != c.pe) then _ else bif (!holdB c.po) then _ else bif ((bif decide (c.po < c.ho) then c.po else c.ho) == 0) then _ else bif ((bif decide (c.po < c.ho) then c.po else c.ho) == 0) then _ else
  (({ sE c 3 (w64 (now + (bif decide (c.po < c.ho) then c.po else c.ho))) (w64 (now + w64 ((bif decide (c.po < c.ho) then c.po else c.ho).tdiv 3))) with hold := (bif decide (c.po < c.ho) then c.po else c.ho) } : Ses), [send alM])) = _
 rw [← hc.e, (holdB_iff _).2 (by omega), beq_no (show c.L ≠ 0 by omega), w, show (c.pe != c.pe) = false by simp, w_id (show 0 ≤ now + c.L by omega) (by omega)]
 rfl
end Go.Proofs.Ytbeolnccdhjjeaa
/- FsmPair: the plain law: the rounds behind the OPENs. -/
namespace Go.Proofs.Ytbeolnccdhjjeaa
open Go.Am
set_option maxRecDepth 100000
abbrev alV (t : Int) : SV := ltV alM t
def Q (q : Int) : Int → Nat → List SV
 | _, 0 => []
 | t, n + 1 => alV t :: Q q (t + q) n
def nx (q : Int) : Int → Nat → Int
 | t, 0 => t
 | t, n + 1 => nx q (t + q) n
theorem Q_snoc (q : Int) : ∀ (n : Nat) (t : Int), Q q t n ++ [alV (nx q t n)] = Q q t (n + 1)
 | 0, t => rfl
 | n + 1, t => by
  show alV t :: (Q q (t + q) n ++ [alV (nx q (t + q) n)]) = alV t :: Q q (t + q) (n + 1)
  rw [Q_snoc q n]
theorem nx_succ (q : Int) : ∀ (n : Nat) (t : Int), nx q t (n + 1) = nx q t n + q
 | 0, t => rfl
 | n + 1, t => nx_succ q n (t + q)
def eE (c : Cf) (ph ex al : Int) (l : List SV) (ak : Bool) : Ed := ⟨sE c ph ex al, l, ak, false⟩
def e2 (c : Cf) (l : List SV) : Ed := ⟨s2 c, l, !c.pas, false⟩
theorem stP_of {k : Int} {m : Msg} {now dl : Int} {a b : Ed} {s' : Ses} {l : List Act} (h : stepP a.s k m now = (s', l)) : stP k m now dl a b = pf (w64 (now + dl)) (l.map Act.v) { a with s := s' } b := by
 unfold stP stA stE
 rw [h]
theorem pf_0 (t : Int) (a b : Ed) : pf t (([] : List Act).map Act.v) a b = (a, b) := rfl
theorem pf_up (t : Int) (m : Msg) (a b : Ed) : pf t (([⟨4, m, 0⟩] : List Act).map Act.v) a b = (a, b) := by kernel_rfl
theorem pf_sd (t : Int) (m : Msg) (a b : Ed) : pf t (([send m] : List Act).map Act.v) a b = (a, { b with q := b.q ++ [ltV m t] }) := by kernel_rfl
theorem ar_far {now dl : Int} {q t : Int} {n : Nat} {a b : Ed} (h : now < t ∨ n = 0) (ha : a.q = Q q t n) : ar now dl (Q q t n) a b = (a, b) := by
 cases n with
 | zero => show (({ a with q := [] } : Ed), b) = (a, b); rw [show ({ a with q := [] } : Ed) = a from ed_eta a ha]
 | succ n =>
  have h' : now < t := by rcases h with h | h; exact h; cases h
  show (bif decide (t ≤ now) then _ else (({ a with q := alV t :: Q q (t + q) n } : Ed), b)) = _
  rw [decide_eq_false (by omega), cond_false, show ({ a with q := alV t :: Q q (t + q) n } : Ed) = a from ed_eta a ha]
structure Hd (c : Cf) (dl now : Int) (ph ex al t : Int) (n : Nat) : Prop where
 p : ph = 4 ∨ ph = 3 ∧ t ≤ 2 * dl
 x : t + 2 ≤ ex ∧ ex ≤ now + 300
 a : now ≤ al ∧ al ≤ now + c.L / 3
 w : now - 1 ≤ t
 z : n = 0 → now ≤ t
structure Md (c : Cf) (dl now : Int) (ph ex al t : Int) : Prop where
 p : ph = 4 ∨ ph = 3 ∧ t ≤ 2 * dl
 x : t + 2 ≤ ex ∧ ex ≤ now + 300
 a : now ≤ al ∧ al ≤ now + c.L / 3
 w : now ≤ t
theorem ar_hd {c : Cf} (hc : c.Ok) {dl now : Int} {ph ex al t : Int} {n : Nat} {ak : Bool} (b : Ed) (h : Hd c dl now ph ex al t n) (hn : 0 ≤ now ∧ now ≤ 1000) :
  ∃ ph' ex' t' n', ar now dl (Q (c.L / 3) t n) (eE c ph ex al (Q (c.L / 3) t n) ak) b = (eE c ph' ex' al (Q (c.L / 3) t' n') ak, b) ∧ nx (c.L / 3) t' n' = nx (c.L / 3) t n ∧ Md c dl now ph' ex' al t' := by
 have hl := hc.l
 obtain ⟨hp, hx, ha, ht, hz⟩ := h
 by_cases hf : now < t ∨ n = 0
 · exact ⟨ph, ex, t, n, ar_far hf rfl, rfl, hp, hx, ha, by rcases hf with hf | hf; omega; exact hz hf⟩
 · cases n with
   | zero => exact absurd (.inr rfl) hf
   | succ n =>
    have hle : t ≤ now := by omega
    have e : ∃ l, stepP (sE c ph ex al) 5 alM now = (sE c 4 (now + c.L) al, l) ∧ (l = [] ∨ l = [⟨4, opnM c.po c.pe, 0⟩]) := by
     rcases hp with rfl | ⟨rfl, _⟩
     · exact ⟨_, step_4 hc (by omega) (by omega) (by omega), .inl rfl⟩
     · exact ⟨_, step_3 hc (by omega) (by omega) (by omega), .inr rfl⟩
    obtain ⟨l, e, el⟩ := e
    have e2 : stP 5 alM now dl (eE c ph ex al (Q (c.L / 3) (t + c.L / 3) n) ak) b = (eE c 4 (now + c.L) al (Q (c.L / 3) (t + c.L / 3) n) ak, b) := by
     rw [stP_of (a := eE c ph ex al (Q (c.L / 3) (t + c.L / 3) n) ak) e]
     rcases el with rfl | rfl
     · exact pf_0 ..
     · exact pf_up ..
    refine ⟨4, now + c.L, t + c.L / 3, n, ?_, rfl, .inl rfl, by omega, ha, by omega⟩
    show (bif decide (t ≤ now) then ar now dl (Q (c.L / 3) (t + c.L / 3) n) (stP 5 alM now dl (eE c ph ex al (Q (c.L / 3) (t + c.L / 3) n) ak) b).1 (stP 5 alM now dl (eE c ph ex al (Q (c.L / 3) (t + c.L / 3) n) ak) b).2 else _) = _
    rw [decide_eq_true hle, cond_true, e2]
    exact ar_far (.inl (by omega)) rfl
theorem tick_md {c : Cf} (hc : c.Ok) {dl now : Int} {ph ex al t : Int} (l : List SV) {ak : Bool} (c' : Cf) (ph' ex' al' u : Int) (n : Nat) (ak' : Bool) (h : Md c dl now ph ex al t) (hn : 0 ≤ now ∧ now ≤ 1000) (hd : 0 ≤ dl ∧ dl ≤ 8) (hu : nx (c.L / 3) u n = al + dl) :
  ∃ al2 n2, stP 7 msg0 now dl (eE c ph ex al l ak) (eE c' ph' ex' al' (Q (c.L / 3) u n) ak') = (eE c ph ex al2 l ak, eE c' ph' ex' al' (Q (c.L / 3) u n2) ak') ∧ nx (c.L / 3) u n2 = al2 + dl ∧ (now + 1 ≤ al2 ∧ al2 ≤ now + c.L / 3) := by
 have hl := hc.l
 obtain ⟨hp, hx, ha, ht⟩ := h
 have hp' : ph = 3 ∨ ph = 4 := by omega
 by_cases hf : now < al
 · refine ⟨al, n, ?_, hu, by omega⟩
   rw [stP_of (a := eE c ph ex al l ak) (step_t0 hc hp' (by omega) (by omega) (by omega)), pf_0]
   rfl
 · have hal : al = now := by omega
   subst hal
   refine ⟨al + c.L / 3, n + 1, ?_, by rw [nx_succ, hu]; omega, by omega⟩
   rw [stP_of (a := eE c ph ex al l ak) (step_t1 hc hp' (by omega) (by omega) (by omega)), pf_sd]
   show (eE c ph ex (al + c.L / 3) l ak, eE c' ph' ex' al' (Q (c.L / 3) u n ++ [alV (w64 (al + dl))]) ak') = _
   rw [w_id (show 0 ≤ al + dl by omega) (by omega), ← hu, Q_snoc]
end Go.Proofs.Ytbeolnccdhjjeaa
/- FsmPair: the plain law: all rounds. -/
namespace Go.Proofs.Ytbeolnccdhjjeaa
open Go.Am
set_option maxRecDepth 100000
def Inv (ca cb : Cf) (dl now : Int) (a b : Ed) : Prop := ∃ pa xa la ta na ka pb xb lb tb nb kb, a = eE ca pa xa la (Q (ca.L / 3) ta na) ka ∧ b = eE cb pb xb lb (Q (ca.L / 3) tb nb) kb ∧
 Hd ca dl now pa xa la ta na ∧ Hd cb dl now pb xb lb tb nb ∧ nx (ca.L / 3) ta na = lb + dl ∧ nx (ca.L / 3) tb nb = la + dl
theorem worse_no {ca cb : Cf} (hL : cb.L = ca.L) (xa la : Int) (qa : List SV) (ka : Bool) (xb lb : Int) (qb : List SV) (kb : Bool) : worse ca.L (eE ca 4 xa la qa ka) (eE cb 4 xb lb qb kb) = false := by
 show (bif (bif (bif (bif (bif (4 : Int) != 4 then true else (4 : Int) != 4) then true else ca.L != ca.L) then true else cb.L != ca.L) then true else false) then true else false) = false
 rw [hL, show (ca.L != ca.L) = false by simp]; rfl
theorem tick_inv {ca cb : Cf} (ha : ca.Ok) (hb : cb.Ok) (hL : cb.L = ca.L) {dl now : Int} (hn : 0 ≤ now ∧ now ≤ 1000) (hd : 0 ≤ dl ∧ dl ≤ 8) {a b : Ed} {pa xa la ta : Int} {na : Nat} {ka : Bool} {pb xb lb tb : Int} {nb : Nat} {kb : Bool}
  (h2 : p2 now dl a b = (eE cb pb xb lb (Q (ca.L / 3) tb nb) kb, eE ca pa xa la (Q (ca.L / 3) ta na) ka)) (ma : Md ca dl now pa xa la ta) (mb : Md cb dl now pb xb lb tb) (na' : nx (ca.L / 3) ta na = lb + dl) (nb' : nx (ca.L / 3) tb nb = la + dl) :
  Inv ca cb dl (now + 1) (p4 now dl a b).2 (p4 now dl a b).1 ∧ (2 * dl + 1 ≤ now → worse ca.L (p4 now dl a b).2 (p4 now dl a b).1 = false) := by
 obtain ⟨la2, nb2, e3, nb3, ra⟩ := tick_md ha (Q (ca.L / 3) ta na) (ak := ka) cb pb xb lb tb nb kb ma hn hd nb'
 have t4 := tick_md hb (Q (ca.L / 3) tb nb2) (ak := kb) ca pa xa la2 ta na ka mb hn hd (by rw [hL]; exact na')
 rw [hL] at t4
 obtain ⟨lb2, na2, e4, na3, rb⟩ := t4
 have e3' : p3 now dl a b = (eE ca pa xa la2 (Q (ca.L / 3) ta na) ka, eE cb pb xb lb (Q (ca.L / 3) tb nb2) kb) := by
  unfold p3; rw [h2]; exact e3
 have e4' : p4 now dl a b = (eE cb pb xb lb2 (Q (ca.L / 3) tb nb2) kb, eE ca pa xa la2 (Q (ca.L / 3) ta na2) ka) := by
  unfold p4; rw [e3', h2]; exact e4
 rw [e4']
 have l1 := ha.l
 refine ⟨⟨pa, xa, la2, ta, na2, ka, pb, xb, lb2, tb, nb2, kb, rfl, rfl, ⟨ma.p, ?_, ?_, ?_, ?_⟩, ⟨mb.p, ?_, ?_, ?_, ?_⟩, na3, nb3⟩, fun hw => ?_⟩
 · have := ma.x; omega
 · omega
 · have := ma.w; omega
 · intro hz; subst hz
   have : ta = lb2 + dl := na3
   omega
 · have := mb.x; omega
 · rw [hL]; omega
 · have := mb.w; omega
 · intro hz; subst hz
   have : tb = la2 + dl := nb3
   omega
 · have a1 : pa = 4 := by rcases ma.p with h | h; exact h; have := ma.w; omega
   have b1 : pb = 4 := by rcases mb.p with h | h; exact h; have := mb.w; omega
   subst a1; subst b1
   exact worse_no hL ..
theorem round_inv {ca cb : Cf} (ha : ca.Ok) (hb : cb.Ok) (hL : cb.L = ca.L) {dl now : Int} (hn : 0 ≤ now ∧ now ≤ 1000) (hd : 0 ≤ dl ∧ dl ≤ 8) {a b : Ed} (h : Inv ca cb dl now a b) :
  Inv ca cb dl (now + 1) (p4 now dl a b).2 (p4 now dl a b).1 ∧ (2 * dl + 1 ≤ now → worse ca.L (p4 now dl a b).2 (p4 now dl a b).1 = false) := by
 obtain ⟨pa, xa, la, ta, na, ka, pb, xb, lb, tb, nb, kb, rfl, rfl, hA, hB, na', nb'⟩ := h
 obtain ⟨pa', xa', ta', n1, e1, x1, m1⟩ := ar_hd ha (ak := ka) (eE cb pb xb lb (Q (ca.L / 3) tb nb) kb) hA hn
 have t2 := ar_hd hb (ak := kb) (eE ca pa' xa' la (Q (ca.L / 3) ta' n1) ka) hB hn
 rw [hL] at t2
 obtain ⟨pb', xb', tb', n2, e2, x2, m2⟩ := t2
 have q1 : p1 now dl (eE ca pa xa la (Q (ca.L / 3) ta na) ka) (eE cb pb xb lb (Q (ca.L / 3) tb nb) kb) = (eE ca pa' xa' la (Q (ca.L / 3) ta' n1) ka, eE cb pb xb lb (Q (ca.L / 3) tb nb) kb) := e1
 have q2 : p2 now dl (eE ca pa xa la (Q (ca.L / 3) ta na) ka) (eE cb pb xb lb (Q (ca.L / 3) tb nb) kb) = (eE cb pb' xb' lb (Q (ca.L / 3) tb' n2) kb, eE ca pa' xa' la (Q (ca.L / 3) ta' n1) ka) := by
  unfold p2; rw [q1]; exact e2
 exact tick_inv ha hb hL hn hd q2 m1 m2 (x1.trans na') (x2.trans nb')
theorem ask_no {least dl now : Int} (hd : 0 ≤ dl ∧ dl ≤ 8) (h : askB least dl now = true) : least ≥ 2 * dl + 6 ∧ 2 * dl + 1 ≤ now := by
 unfold askB at h
 rw [w_id (show 0 ≤ 2 * dl by omega) (by omega), w_id (show 0 ≤ 2 * dl + 6 by omega) (by omega), w_id (show 0 ≤ 2 * dl + 1 by omega) (by omega)] at h
 cases h1 : decide (least ≥ 2 * dl + 6) with
 | false => rw [h1] at h; cases h
 | true => rw [h1, cond_true] at h; exact ⟨of_decide_eq_true h1, of_decide_eq_true h⟩
theorem good_idle {least dl : Int} (hd : 0 ≤ dl ∧ dl ≤ 8) (h : least < 2 * dl + 6) : ∀ (n : Nat) (now : Int) (a b : Ed), goodB least dl n now a b = true
 | 0, _, _, _ => rfl
 | n + 1, now, a, b => by
  have : askB least dl now = false := by
   cases h1 : askB least dl now with
   | false => rfl
   | true => have := (ask_no hd h1).1; omega
  unfold goodB
  rw [this, good_idle hd h n]; rfl
theorem good_inv {ca cb : Cf} (ha : ca.Ok) (hb : cb.Ok) (hL : cb.L = ca.L) {dl : Int} (hd : 0 ≤ dl ∧ dl ≤ 8) : ∀ (n : Nat) (now : Int) (a b : Ed), 0 ≤ now → now + n ≤ 1001 → Inv ca cb dl now a b → goodB ca.L dl n now a b = true
 | 0, _, _, _, _, _, _ => rfl
 | n + 1, now, a, b, h0, h1, hI => by
  obtain ⟨i1, i2⟩ := round_inv ha hb hL ⟨h0, by omega⟩ hd hI
  unfold goodB
  rw [good_inv ha hb hL hd n (now + 1) _ _ (by omega) (by omega) i1, Bool.and_true]
  cases hk : askB ca.L dl now with
  | false => rfl
  | true => rw [i2 (ask_no hd hk).2]; rfl
abbrev b2 (c : Cf) (dl : Int) : Ed := e2 c [ltV (opnM c.po c.pe) dl]
theorem wait_round {ca cb : Cf} (ha : ca.Ok) (hb : cb.Ok) {dl now : Int} (hn : 0 ≤ now ∧ now < dl) (hd : 0 ≤ dl ∧ dl ≤ 8) : p4 now dl (b2 ca dl) (b2 cb dl) = (b2 cb dl, b2 ca dl) := by
 have w : ∀ (c : Cf) (b : Ed), ar now dl [ltV (opnM c.po c.pe) dl] (b2 c dl) b = (b2 c dl, b) := by
  intro c b
  show (bif decide (dl ≤ now) then _ else (b2 c dl, b)) = _
  rw [decide_eq_false (by omega)]; rfl
 have s : ∀ (c : Cf), c.Ok → ∀ b : Ed, stP 7 msg0 now dl (b2 c dl) b = (b2 c dl, b) := by
  intro c hc b
  rw [stP_of (a := b2 c dl) (step_20 hc (by omega)), pf_0]; rfl
 have q1 : p1 now dl (b2 ca dl) (b2 cb dl) = (b2 ca dl, b2 cb dl) := w ca _
 have q2 : p2 now dl (b2 ca dl) (b2 cb dl) = (b2 cb dl, b2 ca dl) := by unfold p2; rw [q1]; exact w cb _
 have q3 : p3 now dl (b2 ca dl) (b2 cb dl) = (b2 ca dl, b2 cb dl) := by unfold p3; rw [q2]; exact s ca ha _
 unfold p4; rw [q3, q2]; exact s cb hb _
theorem ar_nil (now dl : Int) (a b : Ed) (h : a.q = []) : ar now dl [] a b = (a, b) := by
 show (({ a with q := [] } : Ed), b) = (a, b)
 rw [show ({ a with q := [] } : Ed) = a from ed_eta a h]
theorem open_round {ca cb : Cf} (ha : ca.Ok) (hb : cb.Ok) (hL : cb.L = ca.L) {dl : Int} (hd : 0 ≤ dl ∧ dl ≤ 8) (hl : 2 * dl + 6 ≤ ca.L) :
  Inv ca cb dl (dl + 1) (p4 dl dl (b2 ca dl) (b2 cb dl)).2 (p4 dl dl (b2 ca dl) (b2 cb dl)).1 := by
 have l1 := ha.l
 have n0 : 0 ≤ dl ∧ dl ≤ 2000 := by omega
 have o : ∀ (c : Cf), c.Ok → ∀ (l : List SV) (b : Ed), stP 5 (opnM c.po c.pe) dl dl (e2 c l) b = (eE c 3 (dl + c.L) (dl + c.L / 3) l (!c.pas), { b with q := b.q ++ [alV (2 * dl)] }) := by
  intro c hc l b
  rw [stP_of (a := e2 c l) (step_2 hc n0), pf_sd, show w64 (dl + dl) = 2 * dl by rw [w_id (by omega) (by omega)]; omega]
  rfl
 have q1 : p1 dl dl (b2 ca dl) (b2 cb dl) = (eE ca 3 (dl + ca.L) (dl + ca.L / 3) [] (!ca.pas), e2 cb [ltV (opnM cb.po cb.pe) dl, alV (2 * dl)]) := by
  show (bif decide (dl ≤ dl) then ar dl dl [] (stP 5 (opnM ca.po ca.pe) dl dl (e2 ca []) (b2 cb dl)).1 (stP 5 (opnM ca.po ca.pe) dl dl (e2 ca []) (b2 cb dl)).2 else _) = _
  rw [decide_eq_true (by omega), cond_true, o ca ha, ar_nil _ _ _ _ rfl]
  rfl
 have hB : Hd cb dl dl 3 (dl + cb.L) (dl + cb.L / 3) (2 * dl) 1 := ⟨.inr ⟨rfl, by omega⟩, by omega, by omega, by omega, fun h => by cases h⟩
 have t2 := ar_hd hb (ak := !cb.pas) (eE ca 3 (dl + ca.L) (dl + ca.L / 3) [alV (2 * dl)] (!ca.pas)) hB (by omega)
 rw [hL] at t2
 obtain ⟨pb', xb', tb', n2, e2', x2, m2⟩ := t2
 have q2 : p2 dl dl (b2 ca dl) (b2 cb dl) = (eE cb pb' xb' (dl + ca.L / 3) (Q (ca.L / 3) tb' n2) (!cb.pas), eE ca 3 (dl + ca.L) (dl + ca.L / 3) (Q (ca.L / 3) (2 * dl) 1) (!ca.pas)) := by
  unfold p2; rw [q1]
  show (bif decide (dl ≤ dl) then ar dl dl [alV (2 * dl)] (stP 5 (opnM cb.po cb.pe) dl dl (e2 cb [alV (2 * dl)]) (eE ca 3 (dl + ca.L) (dl + ca.L / 3) [] (!ca.pas))).1 (stP 5 (opnM cb.po cb.pe) dl dl (e2 cb [alV (2 * dl)]) (eE ca 3 (dl + ca.L) (dl + ca.L / 3) [] (!ca.pas))).2 else _) = _
  rw [decide_eq_true (by omega), cond_true, o cb hb, hL]
  exact e2'
 rw [← hL] at m2
 exact (tick_inv ha hb hL (by omega) hd q2 ⟨.inr ⟨rfl, by omega⟩, by omega, by omega, by omega⟩ (by rw [hL] at m2; exact m2) (show 2 * dl + ca.L / 3 = dl + ca.L / 3 + dl by omega) (by rw [x2]; show 2 * dl + ca.L / 3 = _; omega)).1
theorem good_wait {ca cb : Cf} (ha : ca.Ok) (hb : cb.Ok) (hL : cb.L = ca.L) {dl : Int} (hd : 0 ≤ dl ∧ dl ≤ 8) (hl : 2 * dl + 6 ≤ ca.L) : ∀ (n : Nat) (now : Int), 0 ≤ now → now ≤ dl → now + n ≤ 1001 → goodB ca.L dl n now (b2 ca dl) (b2 cb dl) = true
 | 0, _, _, _, _ => rfl
 | n + 1, now, h0, h1, h2 => by
  have hk : askB ca.L dl now = false := by
   cases hk : askB ca.L dl now with
   | false => rfl
   | true => have := (ask_no hd hk).2; omega
  unfold goodB
  rw [hk]
  show goodB ca.L dl n (now + 1) (p4 now dl (b2 ca dl) (b2 cb dl)).2 (p4 now dl (b2 ca dl) (b2 cb dl)).1 = true
  by_cases he : now = dl
  · subst he
    exact good_inv ha hb hL hd n (now + 1) _ _ (by omega) (by omega) (open_round ha hb hL hd hl)
  · rw [wait_round ha hb ⟨h0, by omega⟩ hd]
    exact good_wait ha hb hL hd hl n (now + 1) (by omega) (by omega) (by omega)
end Go.Proofs.Ytbeolnccdhjjeaa
/- Sessions: of the rows. -/
namespace Go.Proofs.Ytbeolnccdhjjeaa
open Go.Am Go.ChangeShapes Go.WideShapes Go.ChangeAt Go.RowKit Go.Joins
theorem Try.own : ownKnob Try.prog.godebug = none := by kernel_rfl
theorem laidTry : laidOutB Try.prog = true := by kernel_rfl
theorem mapsTry : mapsRowed Try.prog = true := by kernel_rfl
theorem fullTry : ((List.range Try.prog.types.size).all fun t => match Try.prog.underlying t with | some (.slice e) => decide (0 < Try.prog.cellsOf e) | _ => true) = true := by kernel_rfl
end Go.Proofs.Ytbeolnccdhjjeaa
