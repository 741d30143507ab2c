/- Messages: bodies are read. -/
import Derived.Test.YtnlmhpancboddaaGreatPart16
import Derived.Test.YtnlmhpancboddaaGreatMachine7
set_option linter.unusedVariables false
set_option linter.unusedSimpArgs false
namespace Go.Proofs.YtnlmhpancboddaaGreat
open Go.Am
set_option maxRecDepth 100000
noncomputable abbrev κrd := tbl [(47, nrp_s), (48, un_s 2), (49, un_s 1), (51, ropen_s), (52, updp_s)]
theorem rdOk : KOk Tryz.prog κrd := tbl_cons nrp_k (tbl_cons u16_n (tbl_cons u8_n (tbl_cons ropen_k (tbl_cons updp_k ok0))))
def mgE (e : Int) : CTree := mgR (mgZ 0 cs0 0 0) e
theorem mread_t (k : Int) (p : List SV) : opn κrd Tryz.f33 [.int .i64 k, .psl 5 p] [] =
 bif k == 1 then bylC p (bif (roP p).2 != 0 then mgE (roP p).2 else mgR (mgZ k (roP p).1 0 0) 0) else
 bif k == 2 then bylC p (mgR (mgV (upP p).1) (upP p).2) else
 bif k == 3 then (bif decide ((p.length : Int) < 2) then mgE 3 else bif inB 0 p.length then bif inB 1 p.length then mgR (mgZ k cs0 (w64 (dg p 0)) (w64 (dg p 1))) 0 else .fail else .fail) else
 bif k == 4 then (bif decide ((p.length : Int) > 0) then mgE 3 else mgR (mgZ k cs0 0 0) 0) else
 bif k == 5 then newC p fun r => unC r p 2 fun hi r => unC r p 1 fun _ r => unC r p 1 fun lo _ => bif (bif (bif (p.length : Int) != 4 then true else hi != 25) then true else lo != 70) then mgE 3 else mgR (mgZ k cs0 0 0) 0
 else mgR (mgZ k cs0 0 0) 0 := by kernel_rfl
noncomputable abbrev κrq := tbl [(52, updq_s)]
theorem readq_t (l n : Nat) (es : List SV) : opn κrq Tryz.f33 [.int .i64 2, .qs 0 1 l n] [(0, .seq 5 es)] = bif dec (byl es ∧ l + n ≤ es.length ∧ es.length ≤ 1000000) then mgR (mgV (upP (sl es l n)).1) (upP (sl es l n)).2 else .fail := by kernel_rfl
def mgK (k : Int) : Mg := ⟨k, cs0, 0, 0, dI0⟩
noncomputable def rdP (k : Int) (p : List SV) : Mg × Int :=
 bif k == 1 then (bif (roP p).2 != 0 then (mg0, (roP p).2) else (⟨k, (roP p).1, 0, 0, dI0⟩, 0)) else bif k == 2 then upP p else
 bif k == 3 then (bif decide (p.length < 2) then (mg0, 3) else (⟨k, cs0, dg p 0, dg p 1, dI0⟩, 0)) else bif k == 4 then (bif decide (0 < p.length) then (mg0, 3) else (mgK k, 0)) else
 bif k == 5 then (bif (bif (bif decide (p.length ≠ 4) then true else tkN p 0 2 != 25) then true else dg p 3 != 70) then (mg0, 3) else (mgK k, 0)) else (mgK k, 0)
def mgY (m : Mg) : SV := mgZ m.k m.s m.code m.sub
theorem rdP_d {k : Int} (h : k ≠ 2) (p : List SV) : (rdP k p).1.d = dI0 := by
 unfold rdP
 rw [show (k == 2) = false by simpa using h]
 cases k == 1 with
 | true => cases (roP p).2 != 0 <;> rfl
 | false =>
  cases k == 3 with
  | true => cases decide (p.length < 2) <;> rfl
  | false =>
   cases k == 4 with
   | true => cases decide (0 < p.length) <;> rfl
   | false =>
    cases k == 5 with
    | true => cases (bif (bif decide (p.length ≠ 4) then true else tkN p 0 2 != 25) then true else dg p 3 != 70) <;> rfl
    | false => rfl
theorem co_mgY {m : Mg} (h : m.d = dI0) : CoV Tryz.prog (mgY m) (mgV m) := by
 unfold mgV
 rw [h]
 exact .agg (.cons .rfl' (.cons .rfl' (.cons .rfl' (.cons .rfl' (.cons .rfl' (.cons .rfl' (.cons .rfl' (.cons .rfl' (.cons .rfl' (.cons .nils (.cons .rfl' (.cons .rfl' (.cons .rfl' (.cons .rfl' (.cons .rfl' (.cons .rfl' (.cons .rfl' (.cons .nils (.cons .nils (.cons .rfl' (.cons .rfl' (.cons .rfl' (.cons .rfl' (.cons .nils (.cons .nils .rfl')))))))))))))))))))))))))
noncomputable def readn_s : CSumm := fun args H => match args, H with
 | [.int .i64 k, .psl 5 p], [] => .ite (dec (k ≠ 2 ∧ byl p ∧ p.length ≤ 1000000)) (mgR (mgY (rdP k p).1) (rdP k p).2) .fail
 | _, _ => .fail
theorem readn_k : Known Tryz.prog 33 readn_s := (openKnown rdOk Tryz.func33 rfl).weak (by
 intro args H v ups h
 unfold readn_s at h
 split at h
 · rename_i k p
   rw [crun_ite] at h
   cases hc : dec (k ≠ 2 ∧ byl p ∧ p.length ≤ 1000000) with
   | false => rw [hc] at h; cases h
   | true =>
    rw [hc, cond_true] at h
    obtain ⟨h2, hb, hl⟩ := dec_iff.1 hc
    refine (congrArg crun (mread_t k p)).trans (Eq.trans (congrArg crun ?_) h)
    unfold rdP
    rw [show (k == 2) = false by simpa using h2, bylC_ok hb hl]
    cases k == 1 with
    | true => cases (roP p).2 != 0 <;> rfl
    | false =>
     rw [cond_false, cond_false, cond_false, cond_false]
     cases k == 3 with
     | true =>
      rw [cond_true, cond_true]
      by_cases hp : p.length < 2
      · rw [decide_eq_true hp, decide_eq_true (by omega)]; rfl
      · obtain ⟨a0, a1⟩ := hb.ok 0
        obtain ⟨b0, b1⟩ := hb.ok 1
        rw [decide_eq_false hp, decide_eq_false (by omega), cond_false, inB_ok (by omega) (by omega), inB_ok (by omega) (by omega), cond_true, cond_true, show w64 (dg p 0) = dg p 0 from w64_id (by omega) (by omega), show w64 (dg p 1) = dg p 1 from w64_id (by omega) (by omega)]; rfl
     | false =>
      rw [cond_false, cond_false]
      cases k == 4 with
      | true =>
       rw [cond_true, cond_true]
       by_cases hp : 0 < p.length
       · rw [decide_eq_true hp, decide_eq_true (by omega)]; rfl
       · rw [decide_eq_false hp, decide_eq_false (by omega)]; rfl
      | false =>
       rw [cond_false, cond_false]
       cases k == 5 with
       | false => rfl
       | true =>
        rw [cond_true, cond_true]
        have ho := okRD hb hl (s := 0) (Nat.zero_le _)
        rw [newC_ok hl, unC_ok ho, unC_ok (ho.adv 2), unC_ok ((ho.adv 2).adv 1)]
        by_cases h4 : p.length = 4
        · rw [h4, decide_eq_false (show ¬ (4 : Nat) ≠ 4 by simp), show (((4 : Nat) : Int) != 4) = false from rfl, num_RD (by omega), adv_RD (by omega), adv_RD (by omega), num_RD (by omega), tk1]
          simp only [cond_false]
          show (bif (bif tkN p 0 2 != 25 then true else dg p 3 != 70) then mgE 3 else mgR (mgZ k cs0 0 0) 0) = _
          cases (bif tkN p 0 2 != 25 then true else dg p 3 != 70) <;> rfl
        · rw [decide_eq_true h4, show ((p.length : Int) != 4) = true by simp; omega]; rfl
 · cases h)
noncomputable def readnq_s : CSumm := fun args H => match args, H with
 | [.int .i64 k, .qs 0 1 l n], [(0, .seq 5 es)] => .ite (dec (k ≠ 2 ∧ byl es ∧ l + n ≤ es.length ∧ es.length ≤ 1000000)) (mgR (mgY (rdP k (sl es l n)).1) (rdP k (sl es l n)).2) .fail
 | _, _ => .fail
theorem readnq_k : Known Tryz.prog 33 readnq_s := known_view readn_k (by
 intro args H v ups h
 unfold readnq_s at h
 split at h
 · rename_i k l n es
   rw [crun_ite] at h
   cases hc : dec (k ≠ 2 ∧ byl es ∧ l + n ≤ es.length ∧ es.length ≤ 1000000) with
   | false => rw [hc] at h; cases h
   | true =>
    rw [hc, cond_true] at h
    obtain ⟨h2, hb, hl, hm⟩ := dec_iff.1 hc
    cases h
    refine ⟨[.int .i64 k], 5, es, l, n, 1, rfl, rfl, cells5.symm, hl, rfl, rfl, fun _ => rfl, ?_⟩
    show crun (.ite (dec (k ≠ 2 ∧ byl (sl es l n) ∧ (sl es l n).length ≤ 1000000)) (mgR (mgY (rdP k (sl es l n)).1) (rdP k (sl es l n)).2) .fail) = _
    rw [crun_ite, dec_iff.2 ⟨h2, hb.sl _ _, by rw [sl_len hl]; omega⟩]; rfl
 · cases h)
noncomputable def reada_s : CSumm := fun args H => match args, H with
 | [.int .i64 k, .psl 5 p], [] => .ite (dec (k ≠ 2 ∧ byl p ∧ p.length ≤ 1000000)) (mgR (mgV (rdP k p).1) (rdP k p).2) .fail
 | [.int .i64 k, .qs 0 1 l n], [(0, .seq 5 es)] => .ite (dec (k ≠ 2 ∧ byl es ∧ l + n ≤ es.length ∧ es.length ≤ 1000000)) (mgR (mgV (rdP k (sl es l n)).1) (rdP k (sl es l n)).2) .fail
 | _, _ => .fail
noncomputable def readm_s : CSumm := fun args H => match args, H with
 | [.int .i64 k, .psl 5 p], [] => .ite (dec (k ≠ 2 ∧ byl p ∧ p.length ≤ 1000000)) (mgR (mgY (rdP k p).1) (rdP k p).2) .fail
 | [.int .i64 k, .qs 0 1 l n], [(0, .seq 5 es)] => .ite (dec (k ≠ 2 ∧ byl es ∧ l + n ≤ es.length ∧ es.length ≤ 1000000)) (mgR (mgY (rdP k (sl es l n)).1) (rdP k (sl es l n)).2) .fail
 | _, _ => .fail
theorem readm_k : Known Tryz.prog 33 readm_s := known_or readn_k readnq_k (by
 intro args H v ups h
 unfold readm_s at h
 split at h
 · exact .inl h
 · exact .inr h
 · cases h)
theorem reada_k : Known Tryz.prog 33 reada_s := known_told readm_k (by
 intro args H v ups h
 have same : ∀ {H : HpL} {x : Nat} {c' : Chunk}, updF [] (HpL.get H) x = some c' → ∃ c, updF [] (HpL.get H) x = some c ∧ CoC Tryz.prog x c c' := fun hx => ⟨_, hx, .rfl'⟩
 unfold reada_s at h
 split at h
 · rename_i k p
   rw [crun_ite] at h
   cases hc : dec (k ≠ 2 ∧ byl p ∧ p.length ≤ 1000000) with
   | false => rw [hc] at h; cases h
   | true =>
    rw [hc, cond_true] at h
    cases h
    refine ⟨.tup [mgY (rdP k p).1, .int .i64 (rdP k p).2], [], ?_, .inr ⟨.tup (.cons (co_mgY (rdP_d (dec_iff.1 hc).1 p)) .rfl'), fun x c' hx => same hx⟩⟩
    show crun (.ite (dec (k ≠ 2 ∧ byl p ∧ p.length ≤ 1000000)) _ _) = _
    rw [crun_ite, hc]; rfl
 · rename_i k l n es
   rw [crun_ite] at h
   cases hc : dec (k ≠ 2 ∧ byl es ∧ l + n ≤ es.length ∧ es.length ≤ 1000000) with
   | false => rw [hc] at h; cases h
   | true =>
    rw [hc, cond_true] at h
    cases h
    refine ⟨.tup [mgY (rdP k (sl es l n)).1, .int .i64 (rdP k (sl es l n)).2], [], ?_, .inr ⟨.tup (.cons (co_mgY (rdP_d (dec_iff.1 hc).1 _)) .rfl'), fun x c' hx => same hx⟩⟩
    show crun (.ite (dec (k ≠ 2 ∧ byl es ∧ l + n ≤ es.length ∧ es.length ≤ 1000000)) _ _) = _
    rw [crun_ite, hc]; rfl
 · cases h)
noncomputable def readu_s : CSumm := fun args H => match args, H with
 | [.int .i64 k, .psl 5 p], [] => .ite (dec (k = 2 ∧ byl p ∧ p.length ≤ 1000000)) (mgR (mgV (rdP k p).1) (rdP k p).2) .fail
 | _, _ => .fail
theorem readu_k : Known Tryz.prog 33 readu_s := (openKnown rdOk Tryz.func33 rfl).weak (by
 intro args H v ups h
 unfold readu_s at h
 split at h
 · rename_i k p
   rw [crun_ite] at h
   cases hc : dec (k = 2 ∧ byl p ∧ p.length ≤ 1000000) with
   | false => rw [hc] at h; cases h
   | true =>
    rw [hc, cond_true] at h
    obtain ⟨rfl, hb, hl⟩ := dec_iff.1 hc
    refine (congrArg crun (mread_t 2 p)).trans ?_
    show crun (bylC p (mgR (mgV (upP p).1) (upP p).2)) = _
    rw [bylC_ok hb hl]
    exact h
 · cases h)
noncomputable def readuq_s : CSumm := fun args H => match args, H with
 | [.int .i64 k, .qs 0 1 l n], [(0, .seq 5 es)] => .ite (dec (k = 2 ∧ byl es ∧ l + n ≤ es.length ∧ es.length ≤ 1000000)) (mgR (mgV (rdP k (sl es l n)).1) (rdP k (sl es l n)).2) .fail
 | _, _ => .fail
theorem readuq_k : Known Tryz.prog 33 readuq_s := (openKnown (tbl_cons updq_k ok0) Tryz.func33 rfl).weak (by
 intro args H v ups h
 unfold readuq_s at h
 split at h
 · rename_i k l n es
   rw [crun_ite] at h
   cases hc : dec (k = 2 ∧ byl es ∧ l + n ≤ es.length ∧ es.length ≤ 1000000) with
   | false => rw [hc] at h; cases h
   | true =>
    rw [hc, cond_true] at h
    obtain ⟨rfl, hb⟩ := dec_iff.1 hc
    refine (congrArg crun (readq_t l n es)).trans ?_
    rw [dec_iff.2 hb]
    exact h
 · cases h)
noncomputable def readb_s : CSumm := fun args H => match args, H with
 | [.int .i64 k, .psl 5 p], [] => .ite (dec (k = 2 ∧ byl p ∧ p.length ≤ 1000000)) (mgR (mgV (rdP k p).1) (rdP k p).2) .fail
 | [.int .i64 k, .qs 0 1 l n], [(0, .seq 5 es)] => .ite (dec (k = 2 ∧ byl es ∧ l + n ≤ es.length ∧ es.length ≤ 1000000)) (mgR (mgV (rdP k (sl es l n)).1) (rdP k (sl es l n)).2) .fail
 | _, _ => .fail
theorem readb_k : Known Tryz.prog 33 readb_s := known_or readu_k readuq_k (by
 intro args H v ups h
 unfold readb_s at h
 split at h
 · exact .inl h
 · exact .inr h
 · cases h)
noncomputable def read2_s : CSumm := fun args H => match args, H with
 | [.int .i64 k, .psl 5 p], [] => .ite (dec (byl p ∧ p.length ≤ 1000000)) (mgR (mgV (rdP k p).1) (rdP k p).2) .fail
 | [.int .i64 k, .qs 0 1 l n], [(0, .seq 5 es)] => .ite (dec (byl es ∧ l + n ≤ es.length ∧ es.length ≤ 1000000)) (mgR (mgV (rdP k (sl es l n)).1) (rdP k (sl es l n)).2) .fail
 | _, _ => .fail
theorem read2_k : Known Tryz.prog 33 read2_s := known_or reada_k readb_k (by
 intro args H v ups h
 unfold read2_s at h
 split at h
 · rename_i k p
   rw [crun_ite] at h
   cases hc : dec (byl p ∧ p.length ≤ 1000000) with
   | false => rw [hc] at h; cases h
   | true =>
    rw [hc, cond_true] at h
    have hb := dec_iff.1 hc
    by_cases h2 : k = 2
    · right
      show crun (.ite (dec (k = 2 ∧ byl p ∧ p.length ≤ 1000000)) _ _) = _
      rw [crun_ite, dec_iff.2 ⟨h2, hb⟩]; exact h
    · left
      show crun (.ite (dec (k ≠ 2 ∧ byl p ∧ p.length ≤ 1000000)) _ _) = _
      rw [crun_ite, dec_iff.2 ⟨h2, hb⟩]; exact h
 · rename_i k l n es
   rw [crun_ite] at h
   cases hc : dec (byl es ∧ l + n ≤ es.length ∧ es.length ≤ 1000000) with
   | false => rw [hc] at h; cases h
   | true =>
    rw [hc, cond_true] at h
    have hb := dec_iff.1 hc
    by_cases h2 : k = 2
    · right
      show crun (.ite (dec (k = 2 ∧ byl es ∧ l + n ≤ es.length ∧ es.length ≤ 1000000)) _ _) = _
      rw [crun_ite, dec_iff.2 ⟨h2, hb⟩]; exact h
    · left
      show crun (.ite (dec (k ≠ 2 ∧ byl es ∧ l + n ≤ es.length ∧ es.length ≤ 1000000)) _ _) = _
      rw [crun_ite, dec_iff.2 ⟨h2, hb⟩]; exact h
 · cases h)
end Go.Proofs.YtnlmhpancboddaaGreat
/- Messages: the loop over the messages of a stream: what it comes to. -/
namespace Go.Proofs.YtnlmhpancboddaaGreat
open Go.Am
set_option maxRecDepth 100000
noncomputable def body31 : Code := Tryz.f31.body.getD .skip
noncomputable def c31 : Code := (loopAt 0 body31).getD .skip
noncomputable def m31 : Code := markC [(0, "m")] body31
noncomputable def rng9 : Array Nat × Code × Code := (rngAt (Tryz.f9.body.getD .skip)).getD (#[], .skip, .skip)
def vs9 (d n : Nat) : List SV := [.qs 1 1 0 n, .junk, .ptr 2 0, .ptr (3+d) 0, .ptr (4+d) 0, .ptr (5+d) 0, .junk, .junk, .qs 1 1 0 n, .fn (.func 31) [] [.ptr (6+d) 0, .ptr (7+d) 0]] ++ List.replicate 17 .junk
noncomputable def lr9 (d : Nat) (st : LS) (n : Nat) : Chunk := .loopr st (vs9 d n) rng9.1 rng9.2.1 rng9.2.2
noncomputable def HS0 (n : Nat) (es : List SV) (a : Int) : HpL := [(0, lr9 0 .ready n), (1, .seq 5 es), (2, .cells 25 [.nils]), (3, .cells 22 [.nils]), (4, .cells 28 [.int .i64 0, .int .i64 0]), (5, .cells 3 [.int .i64 a]), (6, .cells 22 [.qs 1 1 0 n]), (7, .cells 62 [.ptr 5 0])]
noncomputable def HS1 (n : Nat) (es : List SV) (a : Int) (m : Nat) (rs : List SV) : HpL := [(0, lr9 1 .ready n), (1, .seq 5 es), (2, .cells 25 [.qs 3 25 0 m]), (3, .seq 52 rs), (4, .cells 22 [.nils]), (5, .cells 28 [.int .i64 0, .int .i64 0]), (6, .cells 3 [.int .i64 a]), (7, .cells 22 [.qs 1 1 0 n]), (8, .cells 62 [.ptr 6 0])]
noncomputable def spF : Nat → List SV → Nat → List SV → Int × Nat × List SV
 | 0, _, a, rs => (0, a, rs)
 | f + 1, es, a, rs =>
  bif (hdP (es.drop a)).2 != 0 then ((hdP (es.drop a)).2, a, rs) else bif (hdP (es.drop a)).1 == 0 then (0, a, rs) else
  bif (rdP (dg (es.drop a) 18) (sl (es.drop a) 19 ((hdP (es.drop a)).1.toNat - 19))).2 != 0 then ((rdP (dg (es.drop a) 18) (sl (es.drop a) 19 ((hdP (es.drop a)).1.toNat - 19))).2, a, rs)
  else spF f es (a + (hdP (es.drop a)).1.toNat) (rs ++ [mgV (rdP (dg (es.drop a) 18) (sl (es.drop a) 19 ((hdP (es.drop a)).1.toNat - 19))).1])
noncomputable def spL (es : List SV) (a : Nat) (rs : List SV) : Int × Nat × List SV := spF (es.length - a) es a rs
def spO (n : Nat) (es : List SV) (a : Int) (rs : List SV) : Prop := byl es ∧ n = es.length ∧ es.length ≤ 1000000 ∧ 0 ≤ a ∧ a ≤ n ∧ rs.length + (es.length - a.toNat) ≤ 2000000
noncomputable def sp0 (n : Nat) (r : Int × Nat × List SV) : CTree :=
 .ite (decide (r.2.2.length = 0))
  (.ite (r.1 == 0) (.ret (.tup [.int .i64 1]) []) (.ret (.tup [.int .i64 1]) [(4, some (.cells 28 [.int .i64 r.1, .int .i64 r.2.1])), (0, some (lr9 0 (.done .ret) n))]))
  (.ite (r.1 == 0) (.ret (.tup [.int .i64 1]) [(2, some (.cells 25 [.qs 8 25 0 r.2.2.length])), (5, some (.cells 3 [.int .i64 r.2.1])), (8, some (.seq 52 r.2.2))])
   (.ret (.tup [.int .i64 1]) [(2, some (.cells 25 [.qs 8 25 0 r.2.2.length])), (5, some (.cells 3 [.int .i64 r.2.1])), (4, some (.cells 28 [.int .i64 r.1, .int .i64 r.2.1])), (0, some (lr9 0 (.done .ret) n)), (8, some (.seq 52 r.2.2))]))
noncomputable def sp1 (n : Nat) (r : Int × Nat × List SV) : CTree :=
 .ite (r.1 == 0) (.ret (.tup [.int .i64 1]) [(2, some (.cells 25 [.qs 9 25 0 r.2.2.length])), (3, none), (6, some (.cells 3 [.int .i64 r.2.1])), (9, some (.seq 52 r.2.2))])
  (.ret (.tup [.int .i64 1]) [(2, some (.cells 25 [.qs 9 25 0 r.2.2.length])), (3, none), (6, some (.cells 3 [.int .i64 r.2.1])), (5, some (.cells 28 [.int .i64 r.1, .int .i64 r.2.1])), (0, some (lr9 1 (.done .ret) n)), (9, some (.seq 52 r.2.2))])
def sOf : HpL → Option (Nat × List SV × Int × Option (Nat × List SV))
 | [(0, _), (1, .seq 5 es), (2, .cells 25 [.nils]), (3, _), (4, _), (5, .cells 3 [.int .i64 a]), (6, .cells 22 [.qs 1 1 0 n]), (7, _)] => some (n, es, a, none)
 | [(0, _), (1, .seq 5 es), (2, .cells 25 [.qs 3 25 0 m]), (3, .seq 52 rs), (4, _), (5, _), (6, .cells 3 [.int .i64 a]), (7, .cells 22 [.qs 1 1 0 n]), (8, _)] => some (n, es, a, some (m, rs))
 | _ => none
noncomputable def sps_s : CSumm := fun args H => match args with
 | [.yl 0, .ptr b 0, .ptr c 0] => match sOf H with
  | some (n, es, a, none) => .ite (dec (b = 6 ∧ c = 7 ∧ H = HS0 n es a ∧ spO n es a [])) (sp0 n (spL es a.toNat [])) .fail
  | some (n, es, a, some (m, rs)) => .ite (dec (b = 7 ∧ c = 8 ∧ H = HS1 n es a m rs ∧ m = rs.length ∧ spO n es a rs)) (sp1 n (spL es a.toNat rs)) .fail
  | none => .fail
 | _ => .fail
def spsM : List SV → HpL → Nat
 | _, H => match sOf H with
  | some (n, _, a, _) => n - a.toNat
  | none => 0
noncomputable def e31 : LEnt := { ins := [0, 1, 2], outs := [], keep := [], size := 58, code := c31, s := sps_s }
noncomputable abbrev κsp := openT Tryz.prog (tbl [(32, head2_s), (33, read2_s)]) 300 5
noncomputable abbrev ιsp : Nat → Bool := fun g => inl (tbl [(32, head2_s), (33, read2_s)]) g && hasBody Tryz.prog g
theorem spOk2 : KOk Tryz.prog κsp := openT_ok noNumTry mixTry (tbl_cons head2_k (tbl_cons read2_k ok0)) 300 5
/- A round. -/
noncomputable def hdC (es : List SV) (n : Nat) (a : Int) (K : Int × Int → CTree) : CTree :=
 bif decide (0 ≤ a) && decide (a ≤ n) && decide ((n : Int) ≤ n) then bif dec (byl es ∧ 0 + a.toNat + ((n : Int).toNat - a.toNat) ≤ es.length ∧ es.length ≤ 1000000) then K (hdP (sl es (0 + a.toNat) ((n : Int).toNat - a.toNat))) else .fail else .fail
noncomputable def rdC2 (es : List SV) (n : Nat) (a sz : Int) (K : Mg × Int → CTree) : CTree :=
 bif inB 18 ((n : Int).toNat - a.toNat) then bif decide (0 + a.toNat + 18 < es.length) then bif decide ((0 : Int) ≤ 19) && decide (19 ≤ sz) && decide (sz ≤ (((n : Int).toNat - a.toNat : Nat) : Int)) then
  bif dec (byl es ∧ 0 + a.toNat + (19 : Int).toNat + (sz.toNat - (19 : Int).toNat) ≤ es.length ∧ es.length ≤ 1000000) then K (rdP (w64 (dg es (0 + a.toNat + 18))) (sl es (0 + a.toNat + (19 : Int).toNat) (sz.toNat - (19 : Int).toNat))) else .fail else .fail else .fail else .fail
noncomputable def badR (d n : Nat) (e a : Int) (L : SV) (K : CTree) : CTree := bif e != 0 then .ret (.tup [.int .i64 1]) [(4 + d, some (.cells 28 [.int .i64 e, .int .i64 a])), (3 + d, some (.cells 22 [.nils])), (2, some (.cells 25 [L])), (0, some (lr9 d (.done .ret) n))] else K
noncomputable def odd0 (n : Nat) : CTree := .ret (.tup [.int .i64 1]) [(2, some (.cells 25 [.qs 8 25 0 1])), (0, some (lr9 0 .ready n)), (8, some (.seq 52 [mgV mg0]))]
noncomputable def spT0 (N n : Nat) (es : List SV) (a : Int) (rs : List SV) : CTree :=
 bif Nat.blt (n - a.toNat) N then bif dec (7 = 7 ∧ 8 = 8 ∧ HS1 n es a 1 rs = HS1 n es a 1 rs ∧ 1 = rs.length ∧ spO n es a rs) then
  (fun r : Int × Nat × List SV => bif r.1 == 0 then .ret (.tup [.int .i64 1]) [(2, some (.cells 25 [.qs 8 25 0 r.2.2.length])), (0, some (lr9 0 .ready n)), (5, some (.cells 3 [.int .i64 r.2.1])), (8, some (.seq 52 r.2.2))]
   else .ret (.tup [.int .i64 1]) [(4, some (.cells 28 [.int .i64 r.1, .int .i64 r.2.1])), (2, some (.cells 25 [.qs 8 25 0 r.2.2.length])), (0, some (lr9 0 (.done .ret) n)), (5, some (.cells 3 [.int .i64 r.2.1])), (8, some (.seq 52 r.2.2))]) (spL es a.toNat rs) else .fail else .fail
theorem sps_t0 (N n : Nat) (es : List SV) (a : Int) : loopOnce Tryz.prog κsp ιsp (ltab []) true 300 e31 { e31 with s := boundT spsM sps_s N } c31 [.yl 0, .ptr 6 0, .ptr 7 0] (HS0 n es a) =
 hdC es n a fun h => bif (bif h.2 == 0 then h.1 == 0 else false) then .ret (.tup [.int .i64 1]) [] else
  bif h.2 == 0 then rdC2 es n a h.1 fun q => bif q.2 != 0 then badR 0 n q.2 a .nils (odd0 n) else spT0 N n es (w64 (a + h.1)) [mgV q.1]
  else bif h.2 != 0 then badR 0 n h.2 a .nils (odd0 n) else spT0 N n es (w64 (a + h.1)) [mgV mg0] := by kernel_rfl
noncomputable def gr9 (m : Nat) (rs : List SV) (K : CTree) : CTree := bif decide (m = rs.length) then bif decide (rs.length + 1 ≤ 9223372036854775807) && decide ((rs.length + 1) * Tryz.prog.types[52].bytes ≤ 140737488355328) then K else .fail else .fail
noncomputable def odd1 (n m : Nat) (rs : List SV) : CTree := gr9 m rs (.ret (.tup [.int .i64 1]) [(2, some (.cells 25 [.qs 9 25 0 (rs.length + 1)])), (3, none), (0, some (lr9 1 .ready n)), (9, some (.seq 52 (rs ++ [mgV mg0])))])
noncomputable def spT1 (N n : Nat) (es : List SV) (a : Int) (m : Nat) (rs : List SV) (x : SV) : CTree := gr9 m rs (
 bif Nat.blt (n - a.toNat) N then bif dec (7 = 7 ∧ 8 = 8 ∧ HS1 n es a (rs.length + 1) (rs ++ [x]) = HS1 n es a (rs.length + 1) (rs ++ [x]) ∧ rs.length + 1 = (rs ++ [x]).length ∧ spO n es a (rs ++ [x])) then
  (fun r : Int × Nat × List SV => bif r.1 == 0 then .ret (.tup [.int .i64 1]) [(2, some (.cells 25 [.qs 9 25 0 r.2.2.length])), (3, none), (0, some (lr9 1 .ready n)), (6, some (.cells 3 [.int .i64 r.2.1])), (9, some (.seq 52 r.2.2))]
   else .ret (.tup [.int .i64 1]) [(5, some (.cells 28 [.int .i64 r.1, .int .i64 r.2.1])), (2, some (.cells 25 [.qs 9 25 0 r.2.2.length])), (3, none), (0, some (lr9 1 (.done .ret) n)), (6, some (.cells 3 [.int .i64 r.2.1])), (9, some (.seq 52 r.2.2))]) (spL es a.toNat (rs ++ [x])) else .fail else .fail)
theorem sps_t1 (N n m : Nat) (es rs : List SV) (a : Int) : loopOnce Tryz.prog κsp ιsp (ltab []) true 300 e31 { e31 with s := boundT spsM sps_s N } c31 [.yl 0, .ptr 7 0, .ptr 8 0] (HS1 n es a m rs) =
 hdC es n a fun h => bif (bif h.2 == 0 then h.1 == 0 else false) then .ret (.tup [.int .i64 1]) [] else
  bif h.2 == 0 then rdC2 es n a h.1 fun q => bif q.2 != 0 then badR 1 n q.2 a (.qs 3 25 0 m) (odd1 n m rs) else spT1 N n es (w64 (a + h.1)) m rs (mgV q.1)
  else bif h.2 != 0 then badR 1 n h.2 a (.qs 3 25 0 m) (odd1 n m rs) else spT1 N n es (w64 (a + h.1)) m rs (mgV mg0) := by kernel_rfl
end Go.Proofs.YtnlmhpancboddaaGreat
/- Messages: the loop over the messages of a stream: the plain side. -/
namespace Go.Proofs.YtnlmhpancboddaaGreat
open Go.Am
set_option maxRecDepth 100000
theorem b52 : decide (Tryz.prog.types[52].bytes ≤ 1000) = true := by kernel_rfl
theorem hdP_cases (p : List SV) : (hdP p).2 = 0 → (hdP p).1 = 0 ∨ (19 ≤ (hdP p).1 ∧ (hdP p).1 ≤ p.length ∧ (hdP p).1 ≤ 4096) := by
 intro h
 unfold hdP at h ⊢
 by_cases h19 : p.length < 19
 · rw [decide_eq_true h19]; exact .inl rfl
 · rw [decide_eq_false h19, cond_false] at h ⊢
   cases c1 : !mkd (p.take 16) with
   | true => rw [c1] at h; cases h
   | false =>
    rw [c1, cond_false] at h
    rw [cond_false]
    by_cases s1 : tkN p 16 2 < 19
    · rw [decide_eq_true s1] at h; cases h
    · by_cases s2 : tkN p 16 2 > 4096
      · rw [decide_eq_true s2, decide_eq_false s1] at h; cases h
      · rw [decide_eq_false s1, decide_eq_false s2, cond_false, cond_false] at h ⊢
        cases c3 : (bif decide (dg p 18 < 1) then true else decide (dg p 18 > 5)) with
        | true => rw [c3] at h; cases h
        | false =>
         rw [cond_false]
         by_cases s4 : (p.length : Int) < tkN p 16 2
         · rw [decide_eq_true s4]; exact .inl rfl
         · rw [decide_eq_false s4, cond_false]; exact .inr ⟨by simp only []; omega, by simp only []; omega, by simp only []; omega⟩
theorem hdP_short {p : List SV} (h : p.length < 19) : hdP p = (0, 0) := by unfold hdP; rw [decide_eq_true h]; rfl
theorem spF_fuel : ∀ (f : Nat) (es : List SV) (a : Nat) (rs : List SV), es.length - a ≤ f → spF f es a rs = spF (es.length - a) es a rs
 | 0, es, a, rs, h => by rw [show es.length - a = 0 by omega]
 | f + 1, es, a, rs, h => by
  cases hl : es.length - a with
  | zero =>
   have : (es.drop a).length < 19 := by rw [List.length_drop]; omega
   unfold spF
   rw [hdP_short this]; rfl
  | succ g =>
   conv => lhs; unfold spF
   conv => rhs; unfold spF
   cases c1 : (hdP (es.drop a)).2 != 0 with
   | true => rfl
   | false =>
    rw [cond_false, cond_false]
    cases c2 : (hdP (es.drop a)).1 == 0 with
    | true => rfl
    | false =>
     have hc := hdP_cases (es.drop a) (by simpa using c1)
     have h0 : (hdP (es.drop a)).1 ≠ 0 := by simpa using c2
     obtain ⟨h1, h2, h3⟩ := hc.resolve_left h0
     rw [List.length_drop] at h2
     rw [cond_false, cond_false, spF_fuel f es _ _ (by omega), spF_fuel g es _ _ (by omega)]
theorem spL_step (es : List SV) (a : Nat) (rs : List SV) : spL es a rs =
  bif (hdP (es.drop a)).2 != 0 then ((hdP (es.drop a)).2, a, rs) else bif (hdP (es.drop a)).1 == 0 then (0, a, rs) else
  bif (rdP (dg (es.drop a) 18) (sl (es.drop a) 19 ((hdP (es.drop a)).1.toNat - 19))).2 != 0 then ((rdP (dg (es.drop a) 18) (sl (es.drop a) 19 ((hdP (es.drop a)).1.toNat - 19))).2, a, rs)
  else spL es (a + (hdP (es.drop a)).1.toNat) (rs ++ [mgV (rdP (dg (es.drop a) 18) (sl (es.drop a) 19 ((hdP (es.drop a)).1.toNat - 19))).1]) := by
 conv => lhs; unfold spL
 rw [← spF_fuel (es.length - a + 1) es a rs (by omega)]
 conv => lhs; unfold spF
 cases c1 : (hdP (es.drop a)).2 != 0 with
 | true => rfl
 | false =>
  rw [cond_false, cond_false]
  cases c2 : (hdP (es.drop a)).1 == 0 with
  | true => rfl
  | false =>
   have hc := hdP_cases (es.drop a) (by simpa using c1)
   have h0 : (hdP (es.drop a)).1 ≠ 0 := by simpa using c2
   obtain ⟨h1, h2, h3⟩ := hc.resolve_left h0
   rw [List.length_drop] at h2
   unfold spL
   rw [cond_false, cond_false, spF_fuel (es.length - a) es _ _ (by omega)]
theorem spF_len : ∀ (f : Nat) (es : List SV) (a : Nat) (rs : List SV), rs.length ≤ (spF f es a rs).2.2.length
 | 0, _, _, _ => Nat.le_refl _
 | f + 1, es, a, rs => by
  unfold spF
  cases (hdP (es.drop a)).2 != 0 with
  | true => exact Nat.le_refl _
  | false =>
   rw [cond_false]
   cases (hdP (es.drop a)).1 == 0 with
   | true => exact Nat.le_refl _
   | false =>
    rw [cond_false]
    cases (rdP (dg (es.drop a) 18) (sl (es.drop a) 19 ((hdP (es.drop a)).1.toNat - 19))).2 != 0 with
    | true => exact Nat.le_refl _
    | false => exact Nat.le_trans (by simp) (spF_len f _ _ _)
theorem sl_from (es : List SV) (a n : Nat) (hn : n = es.length) : sl es (0 + a) (n - a) = es.drop a := by
 subst hn; rw [Nat.zero_add, sl_end]
theorem hdC_ok {es : List SV} {n : Nat} {a : Int} (hb : byl es) (hn : n = es.length) (hl : es.length ≤ 1000000) (h0 : 0 ≤ a) (h1 : a ≤ n) (K : Int × Int → CTree) : hdC es n a K = K (hdP (es.drop a.toNat)) := by
 unfold hdC
 rw [decide_eq_true h0, decide_eq_true h1, decide_eq_true (Int.le_refl _), dec_iff.2 ⟨hb, by show 0 + a.toNat + (n - a.toNat) ≤ _; omega, hl⟩]
 show K (hdP (sl es (0 + a.toNat) (n - a.toNat))) = _
 rw [sl_from es _ n hn]
theorem rdC2_ok {es : List SV} {n : Nat} {a sz : Int} (hb : byl es) (hn : n = es.length) (hl : es.length ≤ 1000000) (h0 : 0 ≤ a) (h1 : a ≤ n) (s1 : 19 ≤ sz) (s2 : sz ≤ ((es.drop a.toNat).length : Int)) (K : Mg × Int → CTree) : rdC2 es n a sz K = K (rdP (dg (es.drop a.toNat) 18) (sl (es.drop a.toNat) 19 (sz.toNat - 19))) := by
 rw [List.length_drop] at s2
 have hd : dg es (0 + a.toNat + 18) = dg (es.drop a.toNat) 18 := by
  unfold dg
  rw [List.getD_eq_getElem?_getD, List.getD_eq_getElem?_getD, List.getElem?_drop, Nat.zero_add]
 obtain ⟨r1, r2⟩ := (byl_dr hb a.toNat).ok 18
 unfold rdC2
 rw [show (n : Int).toNat - a.toNat = n - a.toNat from rfl, inB_ok (by omega) (by omega), decide_eq_true (show 0 + a.toNat + 18 < es.length by omega), decide_eq_true (show (0 : Int) ≤ 19 by omega), decide_eq_true s1, decide_eq_true (show sz ≤ ((n - a.toNat : Nat) : Int) by omega), dec_iff.2 ⟨hb, by show 0 + a.toNat + 19 + (sz.toNat - 19) ≤ _; omega, hl⟩, hd, show w64 (dg (es.drop a.toNat) 18) = dg (es.drop a.toNat) 18 from w64_id (by omega) (by omega)]
 simp only [Bool.and_self, cond_true]
 have hs : sl es (0 + a.toNat + 19) (sz.toNat - 19) = sl (es.drop a.toNat) 19 (sz.toNat - 19) := by
  unfold sl
  rw [List.drop_drop, Nat.zero_add]
 show K (rdP _ (sl es (0 + a.toNat + 19) (sz.toNat - 19))) = _
 rw [hs]
theorem gr9_ok {m : Nat} {rs : List SV} (hm : m = rs.length) (h : rs.length ≤ 2000000) (K : CTree) : gr9 m rs K = K := by
 have hb := of_decide_eq_true b52
 unfold gr9
 have : (rs.length + 1) * Tryz.prog.types[52].bytes ≤ 2000001 * 1000 := Nat.mul_le_mul (by omega) hb
 rw [decide_eq_true hm, decide_eq_true (show rs.length + 1 ≤ 9223372036854775807 by omega), decide_eq_true (show (rs.length + 1) * Tryz.prog.types[52].bytes ≤ 140737488355328 by omega)]; rfl
end Go.Proofs.YtnlmhpancboddaaGreat
