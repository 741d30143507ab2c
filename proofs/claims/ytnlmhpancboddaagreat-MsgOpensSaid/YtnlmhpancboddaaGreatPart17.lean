/- MsgOpens: an OPEN's bytes. -/
import Derived.Test.YtnlmhpancboddaaGreatPart16
set_option linter.unusedVariables false
set_option linter.unusedSimpArgs false
namespace Go.Proofs.YtnlmhpancboddaaGreat
open Go.Am
set_option maxRecDepth 100000
theorem rep_t : opn (tbl []) Tryz.f25 [.sl 0 1 0 1, .int .i64 16] [(0, .cells 5 [.int .u8 255])] = .ret (.qs 1 1 0 16) [(1, some (.seq 5 (List.replicate 16 (.int .u8 255))))] := by kernel_rfl
def rep_s : CSumm := fun args H => match args, H with
 | [.sl 0 1 0 1, .int .i64 16], [(0, .cells 5 [.int .u8 255])] => .ret (.qs 1 1 0 16) [(1, some (.seq 5 (List.replicate 16 (.int .u8 255))))]
 | _, _ => .fail
theorem rep_k : Known Tryz.prog 25 rep_s := (openKnown ok0 Tryz.func25 rfl).weak (by
 intro args H v ups h
 unfold rep_s at h
 split at h
 · exact (congrArg crun rep_t).trans h
 · cases h)
def cOkB (s : Cs) : Bool := bif (bif (bif s.hold != 0 then (bif decide (s.hold < 3) then true else decide (s.hold > 65535)) else false) then true else decide (s.rst < 0)) then true else decide (s.rst > 4095)
theorem cont_t (s : Cs) : opn (tbl []) Tryz.f21 [mgZ 1 s 0 0] [] = bif cOkB s then .ret (.tup [.nili, .int .i64 2]) [] else .ret (.tup [.iface 101 (.agg (oV s)), .int .i64 0]) [] := by kernel_rfl
def opOf : SV → Option Cs
 | .agg [.int .i64 1, .int .u32 asn, .int .i64 hold, .int .u32 id, .int .i64 rst, .bool rsd, .int .i64 0, .int .i64 0, .int .i64 0, .nils, .int .u32 0, .bool false, .int .u32 0, .bool false, .int .u32 0, .bool false, .int .u32 0, .nils, .nils, .int .i64 0, .int .u32 0, .int .u32 0, .int .u32 0, .nils, .nils] => some ⟨false, false, false, asn, hold, id, rst, rsd⟩
 | _ => none
theorem opOf_h {v : SV} {s : Cs} (h : opOf v = some s) : v = mgZ 1 s 0 0 := by
 unfold opOf at h
 split at h
 · cases h; rfl
 · cases h
def opOk (s : Cs) : Prop := 0 ≤ s.asn ∧ s.asn < 4294967296 ∧ 0 ≤ s.rst ∧ s.rst < 4096 ∧ 3 ≤ s.hold ∧ s.hold < 65536 ∧ 0 ≤ s.id ∧ s.id < 4294967296
noncomputable def cont_s : CSumm := fun args H => match args, H with
 | [x], [] => match opOf x with
  | some s => .ite (dec (opOk s)) (.ret (.tup [.iface 101 (.agg (oV s)), .int .i64 0]) []) .fail
  | none => .fail
 | _, _ => .fail
theorem cont_k : Known Tryz.prog 21 cont_s := (openKnown ok0 Tryz.func21 rfl).weak (by
 intro args H v ups h
 unfold cont_s at h
 split at h
 · rename_i x
   split at h
   · rename_i s hs
     rw [crun_ite] at h
     cases hc : dec (opOk s) with
     | false => rw [hc] at h; cases h
     | true =>
      rw [hc, cond_true] at h
      obtain ⟨h0, h1, h2, h3, h4, h5, h6, h7⟩ := dec_iff.1 hc
      rw [opOf_h hs]
      refine (congrArg crun (cont_t s)).trans ?_
      have : cOkB s = false := by
       unfold cOkB
       rw [show (s.hold != 0) = true by rw [bne_iff_ne]; omega, decide_eq_false (show ¬ s.hold < 3 by omega), decide_eq_false (show ¬ s.hold > 65535 by omega), decide_eq_false (show ¬ s.rst < 0 by omega), decide_eq_false (show ¬ s.rst > 4095 by omega)]
       rfl
      rw [this]
      exact h
   · cases h
 · cases h)
def asV (s : Cs) : Int := bif decide (s.asn > 65535) then 23456 else s.asn
def opnL (s : Cs) : List SV := be 4 1 ++ be (asV s) 2 ++ be s.hold 2 ++ be s.id 4 ++ be (((capL s).length : Int) + 2) 1 ++ be 2 1 ++ be ((capL s).length : Int) 1 ++ capL s
theorem opnL_len (s : Cs) : (opnL s).length = 12 + (capL s).length := by unfold opnL; simp only [List.length_append, be_len]
theorem capL_le (s : Cs) : 14 ≤ (capL s).length ∧ (capL s).length ≤ 22 := by
 rw [capL_len]; cases (bif s.rst != 0 then true else s.rsd) <;> simp
noncomputable def enc_s : CSumm := fun args H => match args, H with
 | [.iface 101 (.agg [.int .u32 asn, .int .i64 hold, .int .u32 id, .int .i64 rst, .bool rsd])], [] => .ite (dec (opOk ⟨false, false, false, asn, hold, id, rst, rsd⟩)) (.ret (.qs 0 1 0 (opnL ⟨false, false, false, asn, hold, id, rst, rsd⟩).length) [(0, some (.seq 5 (opnL ⟨false, false, false, asn, hold, id, rst, rsd⟩)))]) .fail
 | _, _ => .fail
theorem oWP_ok {es xs : List SV} (h : es.length + xs.length ≤ 4096) (K : Nat → List SV → CTree) : oWP es.length es xs.length xs K = K (es ++ xs).length (es ++ xs) := by
 unfold oWP; rw [decide_eq_true rfl, cond_true, decide_eq_true ⟨rfl, by omega, by decide⟩, cond_true, List.length_append]
theorem encE_ok {s : Cs} (h : opOk s) (a : Int) (h0 : 0 ≤ a) (h1 : a < 65536) : encE s a (capL s).length (capL s) =
  .ret (.qs 0 1 0 (be 4 1 ++ be a 2 ++ be s.hold 2 ++ be s.id 4 ++ be (((capL s).length : Int) + 2) 1 ++ be 2 1 ++ be ((capL s).length : Int) 1 ++ capL s).length) [(0, some (.seq 5 (be 4 1 ++ be a 2 ++ be s.hold 2 ++ be s.id 4 ++ be (((capL s).length : Int) + 2) 1 ++ be 2 1 ++ be ((capL s).length : Int) 1 ++ capL s)))] := by
 obtain ⟨g0, g1, g2, g3, g4, g5, g6, g7⟩ := h
 obtain ⟨l0, l1⟩ := capL_le s
 unfold encE
 generalize capL s = C at *
 rw [wu64_id h0 (by omega), wu64_id (show 0 ≤ s.hold by omega) (by omega), wu64_id g6 (by omega), show w64 ((C.length : Int) + 2) = (C.length : Int) + 2 from w64_id (by omega) (by omega), wu64_id (show 0 ≤ (C.length : Int) + 2 by omega) (by omega), wu64_id (show 0 ≤ (C.length : Int) by omega) (by omega)]
 rw [oWA_ok (by decide) (by decide) (by decide) (by decide), oWB_ok h0 (by omega) (by simp only [List.length_append, be_len]; decide) (by decide), oWB_ok (by omega) (by omega) (by simp only [List.length_append, be_len]; decide) (by decide), oWB_ok g6 (by omega) (by simp only [List.length_append, be_len]; decide) (by decide), oWB_ok (by omega) (by omega) (by simp only [List.length_append, be_len]; decide) (by decide), oWB_ok (by omega) (by omega) (by simp only [List.length_append, be_len]; decide) (by decide), oWB_ok (by omega) (by omega) (by simp only [List.length_append, be_len]; decide) (by decide), oWP_ok (by simp only [List.length_append, be_len]; omega), oWO_ok (by simp only [List.length_append, be_len]; omega)]
theorem enc_k : Known Tryz.prog 22 enc_s := (openKnown enOk2 Tryz.func22 rfl).weak (by
 intro args H v ups h
 unfold enc_s at h
 split at h
 · rename_i asn hold id rst rsd
   rw [crun_ite] at h
   cases hc : dec (opOk ⟨false, false, false, asn, hold, id, rst, rsd⟩) with
   | false => rw [hc] at h; cases h
   | true =>
    rw [hc, cond_true] at h
    have ho := dec_iff.1 hc
    have ho' := ho
    obtain ⟨g0, g1, g2, g3, g4, g5, g6, g7⟩ := ho'
    refine (congrArg crun (enc_t ⟨false, false, false, asn, hold, id, rst, rsd⟩)).trans ?_
    unfold capC
    rw [decide_eq_true ⟨g0, g1, g2, g3⟩, cond_true, ← h]
    unfold opnL asV
    simp only [] at g0 g1 ⊢
    by_cases ha : asn > 65535
    · rw [decide_eq_true ha, cond_true, cond_true, encE_ok ho 23456 (by decide) (by decide)]
    · rw [decide_eq_false ha, cond_false, cond_false, encE_ok ho asn g0 (by omega)]
 · cases h)
/- Bytes. -/
noncomputable abbrev κby := tbl [(21, cont_s), (22, enc_s), (25, rep_s), (26, wr_s 2), (27, wr_s 1), (24, bytes_s), (28, out_s)]
theorem byOk : KOk Tryz.prog κby := tbl_cons cont_k (tbl_cons enc_k (tbl_cons rep_k (tbl_cons u16_k (tbl_cons u8_k (tbl_cons bytes_k (tbl_cons out_k ok0))))))
def ffs : List SV := List.replicate 16 (.int .u8 255)
noncomputable def byT (s : Cs) (K : Nat → List SV → CTree) : CTree := bif dec (opOk s) then bif dec (opOk s) then K (opnL s).length (opnL s) else .fail else .fail
def oWF (k : Nat) (xs : List SV) (K : Nat → List SV → CTree) : CTree := bif decide (k = xs.length) then bif decide ((xs.length : Int) ≤ 4096 ∧ (4096 : Int) ≤ 65536) then K xs.length xs else .fail else .fail
theorem by_t (s : Cs) : opn κby Tryz.f13 [mgZ 1 s 0 0] [] = byT s fun n b => oWF 16 ffs fun m es => oWB m es (wu64 (w64 (19 + (n : Int)))) 2 4096 fun m es => oWB m es 1 1 4096 fun m es => oWP m es n b fun m es => oWO m es fun m es => .ret (.tup [.qs 0 1 0 m, .int .i64 0]) [(0, some (.seq 5 es))] := by kernel_rfl
end Go.Proofs.YtnlmhpancboddaaGreat
/- Messages: the body of an UPDATE. -/
namespace Go.Proofs.YtnlmhpancboddaaGreat
open Go.Am
set_option maxRecDepth 100000
noncomputable abbrev κup := tbl [(47, nrp_s), (48, un_s 2), (76, areadp_s)]
theorem upOk : KOk Tryz.prog κup := tbl_cons nrp_k (tbl_cons u16_n (tbl_cons areadp_k ok0))
noncomputable abbrev κuq := tbl [(47, nr_s), (48, un_s 2), (76, areadl_s)]
theorem uqOk : KOk Tryz.prog κuq := tbl_cons nr_k (tbl_cons u16_n (tbl_cons areadl_k ok0))
def mgD (d : Ds) : Mg := ⟨2, cs0, 0, 0, d⟩
def upK (q : Int × Int × Ds) : CTree := bif q.1 != 0 then mgR (mgZ 0 cs0 0 0) q.1 else mgR (mgV (mgD q.2.2)) 0
theorem up_t (p : List SV) : opn κup Tryz.f52 [.psl 5 p] [] = newC p fun r => unC r p 2 fun wd r => unC r p 2 fun sz r =>
 bif (bif (bif r.err != 0 then true else wd != 0) then true else w64 sz != lfI r) then mgR (mgZ 0 cs0 0 0) 3 else slI p 4 p.length fun q => bylC q (upK (rdQ q q.length)) := by kernel_rfl
noncomputable def newQ (es : List SV) (l n : Nat) (K : Rd → CTree) : CTree := bif decide (l + n ≤ es.length ∧ n ≤ 1000000) then K ⟨0, n, 0, 0⟩ else .fail
noncomputable def unQ (r : Rd) (q : List SV) (n k : Nat) (K : Int → Rd → CTree) : CTree := bif dec (OkRd r q ∧ n = q.length) then K (r.num q k) (r.adv k) else .fail
theorem uq_t (l n : Nat) (es : List SV) : opn κuq Tryz.f52 [.qs 0 1 l n] [(0, .seq 5 es)] = newQ es l n fun r => unQ r (sl es l n) n 2 fun wd r => unQ r (sl es l n) n 2 fun sz r =>
 bif (bif (bif r.err != 0 then true else wd != 0) then true else w64 sz != lfI r) then mgR (mgZ 0 cs0 0 0) 3 else
 bif decide ((0 : Int) ≤ 4) && decide ((4 : Int) ≤ n) && decide ((n : Int) ≤ n) then bif dec (byl es ∧ l + (4 : Int).toNat + ((n : Int).toNat - (4 : Int).toNat) ≤ es.length ∧ es.length ≤ 1000000) then upK (rdQ (sl es (l + (4 : Int).toNat) ((n : Int).toNat - (4 : Int).toNat)) ((n : Int).toNat - (4 : Int).toNat)) else .fail else .fail := by kernel_rfl
def upB (p : List SV) : Bool := decide (4 ≤ p.length) && decide (tkN p 0 2 = 0) && decide (tkN p 2 2 = (p.length : Int) - 4)
noncomputable def upP (p : List SV) : Mg × Int :=
 bif !upB p then (mg0, 3) else bif (rdQ (p.drop 4) (p.length - 4)).1 != 0 then (mg0, (rdQ (p.drop 4) (p.length - 4)).1) else (mgD (rdQ (p.drop 4) (p.length - 4)).2.2, 0)
theorem up_test {p : List SV} (hb : byl p) (hl : p.length ≤ 1000000) :
  (bif (bif (((RD 0 p.length).adv 2).adv 2).err != 0 then true else (RD 0 p.length).num p 2 != 0) then true else w64 (((RD 0 p.length).adv 2).num p 2) != lfI (((RD 0 p.length).adv 2).adv 2)) = !upB p := by
 unfold upB
 by_cases h4 : 4 ≤ p.length
 · obtain ⟨a0, a1⟩ := tkN_rng hb.ok 2 2
   rw [p2] at a1
   have hlf : lfI (RD 4 p.length) = (p.length : Int) - 4 := by
    have := lfI_v (s := 4) (t := p.length) (k := 0) (by omega) hl
    rw [Nat.add_zero] at this
    rw [this]; omega
   rw [num_RD (by omega), adv_RD (by omega), adv_RD (by omega), num_RD (by omega), show 0 + 2 + 2 = 4 from rfl, hlf, show w64 (tkN p (0 + 2) 2) = tkN p 2 2 from w64_id (by rw [Nat.zero_add]; omega) (by rw [Nat.zero_add]; omega), decide_eq_true h4, show ((RD 4 p.length).err != 0) = false from rfl, cond_false, Bool.true_and]
   by_cases c1 : tkN p 0 2 = 0
   · rw [show (tkN p 0 2 != 0) = false by simpa using c1, decide_eq_true c1, cond_false, Bool.true_and]
     by_cases c2 : tkN p 2 2 = (p.length : Int) - 4
     · rw [decide_eq_true c2, c2]; simp
     · rw [decide_eq_false c2]; simpa using c2
   · rw [show (tkN p 0 2 != 0) = true by simpa using c1, decide_eq_false c1]; rfl
 · rw [decide_eq_false h4]
   have he : (((RD 0 p.length).adv 2).adv 2).err != 0 := by
    by_cases h2 : 2 ≤ p.length
    · rw [adv_RD (by omega), adv_few (by omega)]; rfl
    · rw [adv_few (by omega)]; rfl
   rw [he]; rfl
theorem co_mg : CoV Tryz.prog (mgZ 0 cs0 0 0) (mgV mg0) := .agg (.cons .rfl' (.cons .rfl' (.cons .rfl' (.cons .rfl' (.cons .rfl' (.cons .rfl' (.cons .rfl' (.cons .rfl' (.cons .rfl' (.cons .nils (.cons .rfl' (.cons .rfl' (.cons .rfl' (.cons .rfl' (.cons .rfl' (.cons .rfl' (.cons .rfl' (.cons .nils (.cons .nils (.cons .rfl' (.cons .rfl' (.cons .rfl' (.cons .rfl' (.cons .nils (.cons .nils .rfl')))))))))))))))))))))))))
theorem up_told {p : List SV} {H : HpL} {v' : SV} {ups' : List (Nat × Option Chunk)} (h : crun (mgR (mgV (upP p).1) (upP p).2) = some (v', ups')) : ∃ v ups, crun (bif !upB p then mgR (mgZ 0 cs0 0 0) 3 else upK (rdQ (p.drop 4) (p.length - 4))) = some (v, ups) ∧ Am.Told Tryz.prog H v ups v' ups' := by
 have same : ∀ {x : Nat} {c' : Chunk}, updF [] (HpL.get H) x = some c' → ∃ c, updF [] (HpL.get H) x = some c ∧ CoC Tryz.prog x c c' := fun hx => ⟨_, hx, .rfl'⟩
 unfold upP at h
 cases hu : !upB p with
 | true => rw [hu] at h; cases h; exact ⟨_, _, rfl, .tup (.cons co_mg .rfl'), fun x c' hx => same hx⟩
 | false =>
  rw [hu, cond_false] at h
  rw [cond_false]
  unfold upK
  generalize rdQ (p.drop 4) (p.length - 4) = q at *
  cases hq : q.1 != 0 with
  | true => rw [hq] at h; cases h; exact ⟨_, _, rfl, .tup (.cons co_mg .rfl'), fun x c' hx => same hx⟩
  | false => rw [hq] at h; cases h; exact ⟨_, _, rfl, .rfl', fun x c' hx => same hx⟩
noncomputable def updp_s : CSumm := fun args H => match args, H with
 | [.psl 5 p], [] => .ite (dec (byl p ∧ p.length ≤ 1000000)) (mgR (mgV (upP p).1) (upP p).2) .fail
 | _, _ => .fail
theorem updp_k : Known Tryz.prog 52 updp_s := known_told (openKnown upOk Tryz.func52 rfl) (by
 intro args H v' ups' h
 unfold updp_s at h
 split at h
 · rename_i p
   rw [crun_ite] at h
   cases hc : dec (byl p ∧ p.length ≤ 1000000) with
   | false => rw [hc] at h; cases h
   | true =>
    rw [hc, cond_true] at h
    obtain ⟨hb, hl⟩ := dec_iff.1 hc
    have ht := up_t p
    rw [newC_ok hl, unC_ok (okRD hb hl (Nat.zero_le _)), unC_ok ((okRD hb hl (Nat.zero_le _)).adv 2), up_test hb hl] at ht
    obtain ⟨v, ups, e1, e2⟩ := up_told (H := []) h
    refine ⟨v, ups, ?_, .inr e2⟩
    refine (congrArg crun ht).trans (Eq.trans ?_ e1)
    cases hu : upB p with
    | false => rfl
    | true =>
     have h4 : 4 ≤ p.length := by
      unfold upB at hu
      simp only [Bool.and_eq_true, decide_eq_true_eq] at hu
      exact hu.1.1
     rw [Bool.not_true, cond_false, cond_false, slI_ok (a := 4) (b := (p.length : Int)) (i := 4) (j := p.length) rfl rfl h4 (by omega), sl_end, bylC_ok (byl_dr hb _) (by rw [List.length_drop]; omega), List.length_drop]
 · cases h)
noncomputable def updq_s : CSumm := fun args H => match args, H with
 | [.qs 0 1 l n], [(0, .seq 5 es)] => .ite (dec (byl es ∧ l + n ≤ es.length ∧ es.length ≤ 1000000)) (mgR (mgV (upP (sl es l n)).1) (upP (sl es l n)).2) .fail
 | _, _ => .fail
theorem sl_sl {es : List SV} {l n k : Nat} : sl es (l + k) (n - k) = (sl es l n).drop k := (sl_drop es l n k).symm
theorem updq_k : Known Tryz.prog 52 updq_s := known_told (openKnown uqOk Tryz.func52 rfl) (by
 intro args H v' ups' h
 unfold updq_s at h
 split at h
 · rename_i l n es
   rw [crun_ite] at h
   cases hc : dec (byl es ∧ l + n ≤ es.length ∧ es.length ≤ 1000000) with
   | false => rw [hc] at h; cases h
   | true =>
    rw [hc, cond_true] at h
    obtain ⟨hb, hl, hm⟩ := dec_iff.1 hc
    have ht := uq_t l n es
    have hp : (sl es l n).length = n := sl_len hl
    have hbp : byl (sl es l n) := hb.sl _ _
    have ho : OkRd (RD 0 n) (sl es l n) := by have := okRD hbp (by omega) (Nat.zero_le _); rwa [hp] at this
    have hte := up_test hbp (by omega)
    rw [hp] at hte
    have e1 : ∀ K, newQ es l n K = K (RD 0 n) := fun K => by unfold newQ; rw [decide_eq_true (by omega)]; rfl
    have e2 : ∀ {r : Rd} (k : Nat) (K : Int → Rd → CTree), OkRd r (sl es l n) → unQ r (sl es l n) n k K = K (r.num (sl es l n) k) (r.adv k) := fun k K hr => by unfold unQ; rw [dec_iff.2 ⟨hr, hp.symm⟩, cond_true]
    rw [e1, e2 _ _ ho, e2 _ _ (ho.adv 2), hte] at ht
    obtain ⟨v, ups, g1, g2⟩ := up_told (H := [(0, .seq 5 es)]) h
    refine ⟨v, ups, ?_, .inr g2⟩
    refine (congrArg crun ht).trans (Eq.trans ?_ g1)
    cases hu : upB (sl es l n) with
    | false => rfl
    | true =>
     have h4 : 4 ≤ n := by
      unfold upB at hu
      simp only [Bool.and_eq_true, decide_eq_true_eq] at hu
      omega
     rw [Bool.not_true, cond_false, cond_false, decide_eq_true (show (0 : Int) ≤ 4 by omega), decide_eq_true (show (4 : Int) ≤ n by omega), decide_eq_true (Int.le_refl _), dec_iff.2 ⟨hb, by show l + 4 + (n - 4) ≤ _; omega, hm⟩]
     simp only [Bool.and_self, cond_true]
     show crun (upK (rdQ (sl es (l + 4) (n - 4)) (n - 4))) = _
     rw [sl_sl, hp]
 · cases h)
end Go.Proofs.YtnlmhpancboddaaGreat
/- Messages: bodies are read. -/
namespace Go.Proofs.YtnlmhpancboddaaGreat
open Go.Am
set_option maxRecDepth 100000
noncomputable abbrev κrd := tbl [(47, nrp_s), (48, un_s 2), (49, un_s 1), (51, ropen_s), (52, updp_s)]
theorem rdOk : KOk Tryz.prog κrd := tbl_cons nrp_k (tbl_cons u16_n (tbl_cons u8_n (tbl_cons ropen_k (tbl_cons updp_k ok0))))
def mgE (e : Int) : CTree := mgR (mgZ 0 cs0 0 0) e
theorem mread_t (k : Int) (p : List SV) : opn κrd Tryz.f33 [.int .i64 k, .psl 5 p] [] =
 bif k == 1 then bylC p (bif (roP p).2 != 0 then mgE (roP p).2 else mgR (mgZ k (roP p).1 0 0) 0) else
 bif k == 2 then bylC p (mgR (mgV (upP p).1) (upP p).2) else
 bif k == 3 then (bif decide ((p.length : Int) < 2) then mgE 3 else bif inB 0 p.length then bif inB 1 p.length then mgR (mgZ k cs0 (w64 (dg p 0)) (w64 (dg p 1))) 0 else .fail else .fail) else
 bif k == 4 then (bif decide ((p.length : Int) > 0) then mgE 3 else mgR (mgZ k cs0 0 0) 0) else
 bif k == 5 then newC p fun r => unC r p 2 fun hi r => unC r p 1 fun _ r => unC r p 1 fun lo _ => bif (bif (bif (p.length : Int) != 4 then true else hi != 25) then true else lo != 70) then mgE 3 else mgR (mgZ k cs0 0 0) 0
 else mgR (mgZ k cs0 0 0) 0 := by kernel_rfl
noncomputable abbrev κrq := tbl [(52, updq_s)]
theorem readq_t (l n : Nat) (es : List SV) : opn κrq Tryz.f33 [.int .i64 2, .qs 0 1 l n] [(0, .seq 5 es)] = bif dec (byl es ∧ l + n ≤ es.length ∧ es.length ≤ 1000000) then mgR (mgV (upP (sl es l n)).1) (upP (sl es l n)).2 else .fail := by kernel_rfl
def mgK (k : Int) : Mg := ⟨k, cs0, 0, 0, dI0⟩
noncomputable def rdP (k : Int) (p : List SV) : Mg × Int :=
 bif k == 1 then (bif (roP p).2 != 0 then (mg0, (roP p).2) else (⟨k, (roP p).1, 0, 0, dI0⟩, 0)) else bif k == 2 then upP p else
 bif k == 3 then (bif decide (p.length < 2) then (mg0, 3) else (⟨k, cs0, dg p 0, dg p 1, dI0⟩, 0)) else bif k == 4 then (bif decide (0 < p.length) then (mg0, 3) else (mgK k, 0)) else
 bif k == 5 then (bif (bif (bif decide (p.length ≠ 4) then true else tkN p 0 2 != 25) then true else dg p 3 != 70) then (mg0, 3) else (mgK k, 0)) else (mgK k, 0)
def mgY (m : Mg) : SV := mgZ m.k m.s m.code m.sub
theorem rdP_d {k : Int} (h : k ≠ 2) (p : List SV) : (rdP k p).1.d = dI0 := by
 unfold rdP
 rw [show (k == 2) = false by simpa using h]
 cases k == 1 with
 | true => cases (roP p).2 != 0 <;> rfl
 | false =>
  cases k == 3 with
  | true => cases decide (p.length < 2) <;> rfl
  | false =>
   cases k == 4 with
   | true => cases decide (0 < p.length) <;> rfl
   | false =>
    cases k == 5 with
    | true => cases (bif (bif decide (p.length ≠ 4) then true else tkN p 0 2 != 25) then true else dg p 3 != 70) <;> rfl
    | false => rfl
theorem co_mgY {m : Mg} (h : m.d = dI0) : CoV Tryz.prog (mgY m) (mgV m) := by
 unfold mgV
 rw [h]
 exact .agg (.cons .rfl' (.cons .rfl' (.cons .rfl' (.cons .rfl' (.cons .rfl' (.cons .rfl' (.cons .rfl' (.cons .rfl' (.cons .rfl' (.cons .nils (.cons .rfl' (.cons .rfl' (.cons .rfl' (.cons .rfl' (.cons .rfl' (.cons .rfl' (.cons .rfl' (.cons .nils (.cons .nils (.cons .rfl' (.cons .rfl' (.cons .rfl' (.cons .rfl' (.cons .nils (.cons .nils .rfl')))))))))))))))))))))))))
noncomputable def readn_s : CSumm := fun args H => match args, H with
 | [.int .i64 k, .psl 5 p], [] => .ite (dec (k ≠ 2 ∧ byl p ∧ p.length ≤ 1000000)) (mgR (mgY (rdP k p).1) (rdP k p).2) .fail
 | _, _ => .fail
theorem readn_k : Known Tryz.prog 33 readn_s := (openKnown rdOk Tryz.func33 rfl).weak (by
 intro args H v ups h
 unfold readn_s at h
 split at h
 · rename_i k p
   rw [crun_ite] at h
   cases hc : dec (k ≠ 2 ∧ byl p ∧ p.length ≤ 1000000) with
   | false => rw [hc] at h; cases h
   | true =>
    rw [hc, cond_true] at h
    obtain ⟨h2, hb, hl⟩ := dec_iff.1 hc
    refine (congrArg crun (mread_t k p)).trans (Eq.trans (congrArg crun ?_) h)
    unfold rdP
    rw [show (k == 2) = false by simpa using h2, bylC_ok hb hl]
    cases k == 1 with
    | true => cases (roP p).2 != 0 <;> rfl
    | false =>
     rw [cond_false, cond_false, cond_false, cond_false]
     cases k == 3 with
     | true =>
      rw [cond_true, cond_true]
      by_cases hp : p.length < 2
      · rw [decide_eq_true hp, decide_eq_true (by omega)]; rfl
      · obtain ⟨a0, a1⟩ := hb.ok 0
        obtain ⟨b0, b1⟩ := hb.ok 1
        rw [decide_eq_false hp, decide_eq_false (by omega), cond_false, inB_ok (by omega) (by omega), inB_ok (by omega) (by omega), cond_true, cond_true, show w64 (dg p 0) = dg p 0 from w64_id (by omega) (by omega), show w64 (dg p 1) = dg p 1 from w64_id (by omega) (by omega)]; rfl
     | false =>
      rw [cond_false, cond_false]
      cases k == 4 with
      | true =>
       rw [cond_true, cond_true]
       by_cases hp : 0 < p.length
       · rw [decide_eq_true hp, decide_eq_true (by omega)]; rfl
       · rw [decide_eq_false hp, decide_eq_false (by omega)]; rfl
      | false =>
       rw [cond_false, cond_false]
       cases k == 5 with
       | false => rfl
       | true =>
        rw [cond_true, cond_true]
        have ho := okRD hb hl (s := 0) (Nat.zero_le _)
        rw [newC_ok hl, unC_ok ho, unC_ok (ho.adv 2), unC_ok ((ho.adv 2).adv 1)]
        by_cases h4 : p.length = 4
        · rw [h4, decide_eq_false (show ¬ (4 : Nat) ≠ 4 by simp), show (((4 : Nat) : Int) != 4) = false from rfl, num_RD (by omega), adv_RD (by omega), adv_RD (by omega), num_RD (by omega), tk1]
          simp only [cond_false]
          show (bif (bif tkN p 0 2 != 25 then true else dg p 3 != 70) then mgE 3 else mgR (mgZ k cs0 0 0) 0) = _
          cases (bif tkN p 0 2 != 25 then true else dg p 3 != 70) <;> rfl
        · rw [decide_eq_true h4, show ((p.length : Int) != 4) = true by simp; omega]; rfl
 · cases h)
noncomputable def readnq_s : CSumm := fun args H => match args, H with
 | [.int .i64 k, .qs 0 1 l n], [(0, .seq 5 es)] => .ite (dec (k ≠ 2 ∧ byl es ∧ l + n ≤ es.length ∧ es.length ≤ 1000000)) (mgR (mgY (rdP k (sl es l n)).1) (rdP k (sl es l n)).2) .fail
 | _, _ => .fail
theorem readnq_k : Known Tryz.prog 33 readnq_s := known_view readn_k (by
 intro args H v ups h
 unfold readnq_s at h
 split at h
 · rename_i k l n es
   rw [crun_ite] at h
   cases hc : dec (k ≠ 2 ∧ byl es ∧ l + n ≤ es.length ∧ es.length ≤ 1000000) with
   | false => rw [hc] at h; cases h
   | true =>
    rw [hc, cond_true] at h
    obtain ⟨h2, hb, hl, hm⟩ := dec_iff.1 hc
    cases h
    refine ⟨[.int .i64 k], 5, es, l, n, 1, rfl, rfl, cells5.symm, hl, rfl, rfl, fun _ => rfl, ?_⟩
    show crun (.ite (dec (k ≠ 2 ∧ byl (sl es l n) ∧ (sl es l n).length ≤ 1000000)) (mgR (mgY (rdP k (sl es l n)).1) (rdP k (sl es l n)).2) .fail) = _
    rw [crun_ite, dec_iff.2 ⟨h2, hb.sl _ _, by rw [sl_len hl]; omega⟩]; rfl
 · cases h)
noncomputable def reada_s : CSumm := fun args H => match args, H with
 | [.int .i64 k, .psl 5 p], [] => .ite (dec (k ≠ 2 ∧ byl p ∧ p.length ≤ 1000000)) (mgR (mgV (rdP k p).1) (rdP k p).2) .fail
 | [.int .i64 k, .qs 0 1 l n], [(0, .seq 5 es)] => .ite (dec (k ≠ 2 ∧ byl es ∧ l + n ≤ es.length ∧ es.length ≤ 1000000)) (mgR (mgV (rdP k (sl es l n)).1) (rdP k (sl es l n)).2) .fail
 | _, _ => .fail
noncomputable def readm_s : CSumm := fun args H => match args, H with
 | [.int .i64 k, .psl 5 p], [] => .ite (dec (k ≠ 2 ∧ byl p ∧ p.length ≤ 1000000)) (mgR (mgY (rdP k p).1) (rdP k p).2) .fail
 | [.int .i64 k, .qs 0 1 l n], [(0, .seq 5 es)] => .ite (dec (k ≠ 2 ∧ byl es ∧ l + n ≤ es.length ∧ es.length ≤ 1000000)) (mgR (mgY (rdP k (sl es l n)).1) (rdP k (sl es l n)).2) .fail
 | _, _ => .fail
theorem readm_k : Known Tryz.prog 33 readm_s := known_or readn_k readnq_k (by
 intro args H v ups h
 unfold readm_s at h
 split at h
 · exact .inl h
 · exact .inr h
 · cases h)
theorem reada_k : Known Tryz.prog 33 reada_s := known_told readm_k (by
 intro args H v ups h
 have same : ∀ {H : HpL} {x : Nat} {c' : Chunk}, updF [] (HpL.get H) x = some c' → ∃ c, updF [] (HpL.get H) x = some c ∧ CoC Tryz.prog x c c' := fun hx => ⟨_, hx, .rfl'⟩
 unfold reada_s at h
 split at h
 · rename_i k p
   rw [crun_ite] at h
   cases hc : dec (k ≠ 2 ∧ byl p ∧ p.length ≤ 1000000) with
   | false => rw [hc] at h; cases h
   | true =>
    rw [hc, cond_true] at h
    cases h
    refine ⟨.tup [mgY (rdP k p).1, .int .i64 (rdP k p).2], [], ?_, .inr ⟨.tup (.cons (co_mgY (rdP_d (dec_iff.1 hc).1 p)) .rfl'), fun x c' hx => same hx⟩⟩
    show crun (.ite (dec (k ≠ 2 ∧ byl p ∧ p.length ≤ 1000000)) _ _) = _
    rw [crun_ite, hc]; rfl
 · rename_i k l n es
   rw [crun_ite] at h
   cases hc : dec (k ≠ 2 ∧ byl es ∧ l + n ≤ es.length ∧ es.length ≤ 1000000) with
   | false => rw [hc] at h; cases h
   | true =>
    rw [hc, cond_true] at h
    cases h
    refine ⟨.tup [mgY (rdP k (sl es l n)).1, .int .i64 (rdP k (sl es l n)).2], [], ?_, .inr ⟨.tup (.cons (co_mgY (rdP_d (dec_iff.1 hc).1 _)) .rfl'), fun x c' hx => same hx⟩⟩
    show crun (.ite (dec (k ≠ 2 ∧ byl es ∧ l + n ≤ es.length ∧ es.length ≤ 1000000)) _ _) = _
    rw [crun_ite, hc]; rfl
 · cases h)
noncomputable def readu_s : CSumm := fun args H => match args, H with
 | [.int .i64 k, .psl 5 p], [] => .ite (dec (k = 2 ∧ byl p ∧ p.length ≤ 1000000)) (mgR (mgV (rdP k p).1) (rdP k p).2) .fail
 | _, _ => .fail
theorem readu_k : Known Tryz.prog 33 readu_s := (openKnown rdOk Tryz.func33 rfl).weak (by
 intro args H v ups h
 unfold readu_s at h
 split at h
 · rename_i k p
   rw [crun_ite] at h
   cases hc : dec (k = 2 ∧ byl p ∧ p.length ≤ 1000000) with
   | false => rw [hc] at h; cases h
   | true =>
    rw [hc, cond_true] at h
    obtain ⟨rfl, hb, hl⟩ := dec_iff.1 hc
    refine (congrArg crun (mread_t 2 p)).trans ?_
    show crun (bylC p (mgR (mgV (upP p).1) (upP p).2)) = _
    rw [bylC_ok hb hl]
    exact h
 · cases h)
noncomputable def readuq_s : CSumm := fun args H => match args, H with
 | [.int .i64 k, .qs 0 1 l n], [(0, .seq 5 es)] => .ite (dec (k = 2 ∧ byl es ∧ l + n ≤ es.length ∧ es.length ≤ 1000000)) (mgR (mgV (rdP k (sl es l n)).1) (rdP k (sl es l n)).2) .fail
 | _, _ => .fail
theorem readuq_k : Known Tryz.prog 33 readuq_s := (openKnown (tbl_cons updq_k ok0) Tryz.func33 rfl).weak (by
 intro args H v ups h
 unfold readuq_s at h
 split at h
 · rename_i k l n es
   rw [crun_ite] at h
   cases hc : dec (k = 2 ∧ byl es ∧ l + n ≤ es.length ∧ es.length ≤ 1000000) with
   | false => rw [hc] at h; cases h
   | true =>
    rw [hc, cond_true] at h
    obtain ⟨rfl, hb⟩ := dec_iff.1 hc
    refine (congrArg crun (readq_t l n es)).trans ?_
    rw [dec_iff.2 hb]
    exact h
 · cases h)
noncomputable def readb_s : CSumm := fun args H => match args, H with
 | [.int .i64 k, .psl 5 p], [] => .ite (dec (k = 2 ∧ byl p ∧ p.length ≤ 1000000)) (mgR (mgV (rdP k p).1) (rdP k p).2) .fail
 | [.int .i64 k, .qs 0 1 l n], [(0, .seq 5 es)] => .ite (dec (k = 2 ∧ byl es ∧ l + n ≤ es.length ∧ es.length ≤ 1000000)) (mgR (mgV (rdP k (sl es l n)).1) (rdP k (sl es l n)).2) .fail
 | _, _ => .fail
theorem readb_k : Known Tryz.prog 33 readb_s := known_or readu_k readuq_k (by
 intro args H v ups h
 unfold readb_s at h
 split at h
 · exact .inl h
 · exact .inr h
 · cases h)
noncomputable def read2_s : CSumm := fun args H => match args, H with
 | [.int .i64 k, .psl 5 p], [] => .ite (dec (byl p ∧ p.length ≤ 1000000)) (mgR (mgV (rdP k p).1) (rdP k p).2) .fail
 | [.int .i64 k, .qs 0 1 l n], [(0, .seq 5 es)] => .ite (dec (byl es ∧ l + n ≤ es.length ∧ es.length ≤ 1000000)) (mgR (mgV (rdP k (sl es l n)).1) (rdP k (sl es l n)).2) .fail
 | _, _ => .fail
theorem read2_k : Known Tryz.prog 33 read2_s := known_or reada_k readb_k (by
 intro args H v ups h
 unfold read2_s at h
 split at h
 · rename_i k p
   rw [crun_ite] at h
   cases hc : dec (byl p ∧ p.length ≤ 1000000) with
   | false => rw [hc] at h; cases h
   | true =>
    rw [hc, cond_true] at h
    have hb := dec_iff.1 hc
    by_cases h2 : k = 2
    · right
      show crun (.ite (dec (k = 2 ∧ byl p ∧ p.length ≤ 1000000)) _ _) = _
      rw [crun_ite, dec_iff.2 ⟨h2, hb⟩]; exact h
    · left
      show crun (.ite (dec (k ≠ 2 ∧ byl p ∧ p.length ≤ 1000000)) _ _) = _
      rw [crun_ite, dec_iff.2 ⟨h2, hb⟩]; exact h
 · rename_i k l n es
   rw [crun_ite] at h
   cases hc : dec (byl es ∧ l + n ≤ es.length ∧ es.length ≤ 1000000) with
   | false => rw [hc] at h; cases h
   | true =>
    rw [hc, cond_true] at h
    have hb := dec_iff.1 hc
    by_cases h2 : k = 2
    · right
      show crun (.ite (dec (k = 2 ∧ byl es ∧ l + n ≤ es.length ∧ es.length ≤ 1000000)) _ _) = _
      rw [crun_ite, dec_iff.2 ⟨h2, hb⟩]; exact h
    · left
      show crun (.ite (dec (k ≠ 2 ∧ byl es ∧ l + n ≤ es.length ∧ es.length ≤ 1000000)) _ _) = _
      rw [crun_ite, dec_iff.2 ⟨h2, hb⟩]; exact h
 · cases h)
end Go.Proofs.YtnlmhpancboddaaGreat
