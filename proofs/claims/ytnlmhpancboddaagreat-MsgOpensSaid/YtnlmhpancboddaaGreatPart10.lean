/- Attributes are read: the tunnel, known. -/
import Derived.Test.YtnlmhpancboddaaGreatPart9
set_option linter.unusedVariables false
set_option linter.unusedSimpArgs false
namespace Go.Proofs.YtnlmhpancboddaaGreat
open Go.Am
set_option maxRecDepth 100000
theorem tkN_slj {es : List SV} {s m j : Nat} : ∀ k, j + k ≤ m → tkN es (s + j) k = tkN (sl es s m) j k
 | 0, _ => rfl
 | k + 1, h => by
  rw [tkN, tkN, tkN_slj (m := m) k (by omega), sl_dg (es := es) (l := s) (n := m) (j := j + k) (by omega), Nat.add_assoc]
theorem num_v {es : List SV} {s t n : Nat} (j k : Nat) (h : s + (j + k) ≤ t) : (RD (s + j) t).num es k = tkN (vl es s t) j k := by
 rw [num_RD (by omega), tkN_slj (m := t - s) k (by omega)]; rfl
theorem adv_v {s t : Nat} (j k : Nat) (h : s + (j + k) ≤ t) : (RD (s + j) t).adv k = RD (s + (j + k)) t := by
 rw [adv_RD (by omega), Nat.add_assoc]
theorem adv_err {r : Rd} (h : (r.err != 0) = true) (k : Nat) : ((r.adv k).err != 0) = true := by rw [adv_bad h]; exact h
theorem few_err {s t k : Nat} (h : ¬ s + k ≤ t) : (((RD s t).adv k).err != 0) = true := by rw [adv_few h]; rfl
theorem ruC_ok {r : Rd} {n : Nat} {es : List SV} (h : OkRd r es) (hn : n = es.length) (K : CTree) : ruC r n es K = K := by
 unfold ruC; rw [dec_iff.2 ⟨h, hn⟩]; rfl
def tnOk (v : List SV) : Bool := bif dg v 0 == 0 then (bif dg v 1 == 3 then decide (v.length = 13) else bif dg v 1 == 6 then decide (v.length = 9) else false) else false
def tnG (v : List SV) (d : Ds) : Ds := dT d (dg v 1) (tkN v 2 3) (tkN v 5 4) (bif dg v 1 == 3 then tkN v 9 4 else 0)
theorem tnB_bad {a b : Int} {r : Rd} (h : (r.err != 0) = true) : tnB a b r = false := by
 unfold tnB
 have : (r.err == 0) = false := by simpa using h
 rw [this]
 generalize (bif (bif a == 0 then (bif b == 3 then true else b == 6) else false) then IntKind.i64.wrap (r.end_ - r.at_) == 0 else false) = x
 cases x <;> rfl
theorem left_v {s t k : Nat} (h : s + k ≤ t) (ht : t ≤ 1000000) : IntKind.i64.wrap ((RD (s + k) t).end_ - (RD (s + k) t).at_) = ((t - s - k : Nat) : Int) := by
 unfold RD; simp only []
 rw [w64_id (by omega) (by omega)]; omega
theorem tn_k : Known Tryz.prog 127 (fl_s (fun _ _ _ => true) tnOk tnG id id id) := fl_of (openKnown uOk Tryz.func127 rfl) (by
 intro s t n es off fl cd pb cb mb d ho _
 have ht := tn_t (RD s t) n es off fl cd pb cb mb d
 have hl := ho.len
 have hr := ho.rd
 obtain ⟨h1, h2, h3, h4, h5⟩ := ho
 have hv : byl (vl es s t) := h1.sl _ _
 have e1 : (RD s t).adv 1 = (RD (s + 0) t).adv 1 := rfl
 unfold tnT at ht
 rw [ruC_ok hr h2, ruC_ok (hr.adv 1) h2, ruC_ok ((hr.adv 1).adv 1) h2, ruC_ok (((hr.adv 1).adv 1).adv 3) h2] at ht
 have told_no : ∀ {x : Bool} {c : Chunk} {c0 : Chunk}, x = false → (∃ d', c = dC pb cb mb d') → Am.Told Tryz.prog (flH (RD s t) n es pb cb mb d) (.bool x) [(3, some c), (0, some c0)] (.bool false) [(3, some jk), (0, none)] := by
  rintro x c c0 rfl ⟨d', rfl⟩
  exact ⟨.rfl', told3 jk_of rfl (fun x h0 h6 => by simp only [updF, h0, h6, if_false])⟩
 by_cases h9 : s + 9 ≤ t
 · have a1 : (RD s t).adv 1 = RD (s + 1) t := adv_v (s := s) 0 1 (by omega)
   have a2 : (RD (s + 1) t).adv 1 = RD (s + 2) t := adv_v 1 1 (by omega)
   have a3 : (RD (s + 2) t).adv 3 = RD (s + 5) t := adv_v 2 3 (by omega)
   have a4 : (RD (s + 5) t).adv 4 = RD (s + 9) t := adv_v 5 4 (by omega)
   have m0 : (RD s t).num es 1 = dg (vl es s t) 0 := by rw [← tk1]; exact num_v (n := n) (s := s) 0 1 (by omega)
   have m1 : (RD (s + 1) t).num es 1 = dg (vl es s t) 1 := by rw [← tk1]; exact num_v (n := n) 1 1 (by omega)
   have m2 : (RD (s + 2) t).num es 3 = tkN (vl es s t) 2 3 := num_v (n := n) 2 3 (by omega)
   have m3 : (RD (s + 5) t).num es 4 = tkN (vl es s t) 5 4 := num_v (n := n) 5 4 (by omega)
   obtain ⟨q1, q2⟩ := hv.ok 1
   obtain ⟨q3, q4⟩ := tkN_rng hv.ok 2 3
   obtain ⟨q5, q6⟩ := tkN_rng hv.ok 5 4
   rw [a1, a2, a3, a4, m0, m1, m2, m3, w64_id (n := dg (vl es s t) 1) (by omega) (by omega), w3_id (n := tkN (vl es s t) 2 3) q3 (Int.lt_trans q4 (by decide)), w3_id (n := tkN (vl es s t) 5 4) q5 q6] at ht
   by_cases hk3 : dg (vl es s t) 1 = 3
   · rw [show (dg (vl es s t) 1 == 3) = true by simpa using hk3, cond_true, ruC_ok (by rw [← a4, ← a3, ← a2, ← a1]; exact (((hr.adv 1).adv 1).adv 3).adv 4) h2] at ht
     by_cases h13 : s + 13 ≤ t
     · have a5 : (RD (s + 9) t).adv 4 = RD (s + 13) t := adv_v 9 4 (by omega)
       have m4 : (RD (s + 9) t).num es 4 = tkN (vl es s t) 9 4 := num_v (n := n) 9 4 (by omega)
       obtain ⟨q7, q8⟩ := tkN_rng hv.ok 9 4
       rw [a5, m4, w3_id (n := tkN (vl es s t) 9 4) q7 q8] at ht
       have hb : tnB (dg (vl es s t) 0) (dg (vl es s t) 1) (RD (s + 13) t) = tnOk (vl es s t) := by
        unfold tnB tnOk
        rw [left_v h13 (by omega), hk3, hl]
        cases dg (vl es s t) 0 == 0 with
        | false => rfl
        | true =>
         by_cases hx : t - s = 13
         · rw [decide_eq_true hx, show t - s - 13 = 0 by omega]; rfl
         · rw [decide_eq_false hx, show (((t - s - 13 : Nat) : Int) == 0) = false by simp; omega]; rfl
       rw [hb] at ht
       refine ⟨_, _, congrArg crun ht, .inr ?_⟩
       cases hok : tnOk (vl es s t) with
       | false => exact told_no rfl ⟨_, rfl⟩
       | true =>
        refine ⟨.rfl', told3 (c3 := dC pb cb mb (tnG (vl es s t) d)) .rfl' ?_ (fun x h0 h6 => by simp only [updF, h0, h6, if_false])⟩
        show some _ = some _
        unfold tnG
        rw [hk3]; rfl
     · have hbad := few_err (s := s + 9) (t := t) (k := 4) (by omega)
       have hok : tnOk (vl es s t) = false := by
        unfold tnOk
        rw [hk3, hl, decide_eq_false (show ¬ t - s = 13 by omega)]
        cases dg (vl es s t) 0 == 0 <;> rfl
       rw [tnB_bad hbad] at ht
       rw [hok]
       exact ⟨_, _, congrArg crun ht, .inr (told_no rfl ⟨_, rfl⟩)⟩
   · have hk3' : (dg (vl es s t) 1 == 3) = false := by simpa using hk3
     rw [hk3', cond_false] at ht
     have hb : tnB (dg (vl es s t) 0) (dg (vl es s t) 1) (RD (s + 9) t) = tnOk (vl es s t) := by
      unfold tnB tnOk
      rw [left_v h9 (by omega), hk3', hl]
      cases dg (vl es s t) 0 == 0 with
      | false => rfl
      | true => cases dg (vl es s t) 1 == 6 with
       | false => rfl
       | true =>
        by_cases hx : t - s = 9
        · rw [decide_eq_true hx, show t - s - 9 = 0 by omega]; rfl
        · rw [decide_eq_false hx, show (((t - s - 9 : Nat) : Int) == 0) = false by simp; omega]; rfl
     rw [hb] at ht
     refine ⟨_, _, congrArg crun ht, .inr ?_⟩
     cases hok : tnOk (vl es s t) with
     | false => exact told_no rfl ⟨_, rfl⟩
     | true =>
      refine ⟨.rfl', told3 (c3 := dC pb cb mb (tnG (vl es s t) d)) .rfl' ?_ (fun x h0 h6 => by simp only [updF, h0, h6, if_false])⟩
      show some _ = some _
      unfold tnG
      rw [hk3']; rfl
 · have hbad : ((((((RD s t).adv 1).adv 1).adv 3).adv 4).err != 0) = true := by
     by_cases c1 : s + 1 ≤ t
     · have a1 : (RD s t).adv 1 = RD (s + 1) t := adv_v (s := s) 0 1 (by omega)
       rw [a1]
       by_cases c2 : s + 2 ≤ t
       · rw [adv_v (s := s) (t := t) 1 1 (by omega)]
         by_cases c3 : s + 5 ≤ t
         · rw [adv_v (s := s) (t := t) (1 + 1) 3 (by omega)]; exact few_err (by omega)
         · exact adv_err (few_err (by omega)) _
       · exact adv_err (adv_err (few_err (by omega)) _) _
     · exact adv_err (adv_err (adv_err (few_err c1) _) _) _
   have hok : tnOk (vl es s t) = false := by
    unfold tnOk
    rw [hl, decide_eq_false (show ¬ t - s = 13 by omega), decide_eq_false (show ¬ t - s = 9 by omega)]
    cases dg (vl es s t) 0 == 0 <;> cases dg (vl es s t) 1 == 3 <;> cases dg (vl es s t) 1 == 6 <;> rfl
   rw [hok]
   rw [tnB_bad hbad, ruC_ok ((((hr.adv 1).adv 1).adv 3).adv 4) h2, tnB_bad (adv_err hbad 4)] at ht
   cases hx : (IntKind.i64.wrap (((RD s t).adv 1).num es 1) == 3) with
   | true =>
    rw [hx] at ht
    exact ⟨_, _, congrArg crun ht, .inr (told_no rfl ⟨_, rfl⟩)⟩
   | false =>
    rw [hx] at ht
    exact ⟨_, _, congrArg crun ht, .inr (told_no rfl ⟨_, rfl⟩)⟩)
end Go.Proofs.YtnlmhpancboddaaGreat
/- Attributes are read: routes. -/
namespace Go.Proofs.YtnlmhpancboddaaGreat
open Go.Am
set_option maxRecDepth 100000
noncomputable abbrev κo := tbl [(126, byR_s), (136, read_s)]
theorem oOk : KOk Tryz.prog κo := tbl_cons byR_k (tbl_cons read_k ok0)
def roH (r : Rd) (n : Nat) (es : List SV) (pb cb mb : Bool) (d : Ds) : HpL := [(0, rC r n), (1, .seq 5 es), (2, dC pb cb mb d)]
def roA (off fl cd : Int) (o : Nat) : List SV := [.agg [.ptr 0 0, .int .i64 off, .int .u8 fl, .int .u8 cd], .ptr 2 o]
def lfI (r : Rd) : Int := IntKind.i64.wrap (r.end_ - r.at_)
def rstN (r : Rd) (es : List SV) : List SV := r.sub es (lfI r).toNat
noncomputable def dO (o : Nat) (p : List SV) (d : Ds) : Ds := bif Nat.beq o 15 then { d with rch := rdL p } else { d with unr := rdL p }
noncomputable def roT (r : Rd) (n : Nat) (es : List SV) (pb cb mb : Bool) (d : Ds) (o : Nat) : CTree :=
 bif dec (OkRd r es ∧ n = es.length ∧ 0 ≤ lfI r ∧ lfI r ≤ 1000000) then bif dec (byl (rstN r es) ∧ 0 + (rstN r es).length ≤ (rstN r es).length ∧ (rstN r es).length ≤ 1000000) then
  .ret (.bool (bif rdE (sl (rstN r es) 0 (rstN r es).length) == 0 then (r.adv (lfI r).toNat).err == 0 else false)) [(2, some (dC pb cb mb (dO o (sl (rstN r es) 0 (rstN r es).length) d))), (0, some (rC (r.adv (lfI r).toNat) n))]
 else .fail else .fail
theorem ro_t15 (r : Rd) (n : Nat) (es : List SV) (off fl cd : Int) (pb cb mb : Bool) (d : Ds) : opn κo Tryz.f124 (roA off fl cd 15) (roH r n es pb cb mb d) = roT r n es pb cb mb d 15 := by
 cases pb <;> cases cb <;> cases mb <;> kernel_rfl
theorem ro_t16 (r : Rd) (n : Nat) (es : List SV) (off fl cd : Int) (pb cb mb : Bool) (d : Ds) : opn κo Tryz.f124 (roA off fl cd 16) (roH r n es pb cb mb d) = roT r n es pb cb mb d 16 := by
 cases pb <;> cases cb <;> cases mb <;> kernel_rfl
noncomputable def ro_s : CSumm := fun args H => match args, H with
 | [.agg [.ptr 0 0, .int .i64 off, .int .u8 fl, .int .u8 cd], .ptr 2 o], [(0, .cells 157 [.int .i64 a, .int .i64 e, .qs 1 1 0 n, .int .i64 er, .int .i64 f, .bool true]), (1, .seq 5 es), (2, .cells 177 cs)] =>
  match dP cs with
  | some (pb, cb, mb, d) => .ite (dec (H = roH ⟨a, e, er, f⟩ n es pb cb mb d ∧ OkRd ⟨a, e, er, f⟩ es ∧ n = es.length ∧ byl es ∧ (o = 15 ∨ o = 16)))
    (.ret (.bool (bif rdE (rstN ⟨a, e, er, f⟩ es) == 0 then ((⟨a, e, er, f⟩ : Rd).adv (lfI ⟨a, e, er, f⟩).toNat).err == 0 else false)) [(2, some (dC pb cb mb (dO o (rstN ⟨a, e, er, f⟩ es) d))), (0, some (rC ((⟨a, e, er, f⟩ : Rd).adv (lfI ⟨a, e, er, f⟩).toNat) n))]) .fail
  | none => .fail
 | _, _ => .fail
theorem sl_all (l : List SV) : sl l 0 l.length = l := by unfold sl; simp
theorem ro_k : Known Tryz.prog 124 ro_s := (openKnown oOk Tryz.func124 rfl).weak (by
 intro args H v ups h
 unfold ro_s at h
 split at h
 · rename_i off fl cd o a e n er f es cs
   split at h
   · rename_i pb cb mb d hd
     rw [crun_ite] at h
     cases hc : dec _ with
     | false => rw [hc] at h; cases h
     | true =>
      rw [hc, cond_true] at h
      obtain ⟨hH, h1, h2, h3, h4⟩ := dec_iff.1 hc
      rw [hH]
      generalize (⟨a, e, er, f⟩ : Rd) = r at *
      have hlf : 0 ≤ lfI r ∧ lfI r ≤ 1000000 := by
       obtain ⟨q1, q2, q3, q4, q5⟩ := h1
       unfold lfI
       rw [w64_id (by omega) (by omega)]; omega
      have hrl : byl (rstN r es) := sub_byl h3 r _
      have hrn : (rstN r es).length ≤ 1000000 := Nat.le_trans (sub_len r es _) (by omega)
      have ht : roT r n es pb cb mb d o = .ret (.bool (bif rdE (rstN r es) == 0 then (r.adv (lfI r).toNat).err == 0 else false)) [(2, some (dC pb cb mb (dO o (rstN r es) d))), (0, some (rC (r.adv (lfI r).toNat) n))] := by
       unfold roT
       rw [dec_iff.2 ⟨h1, h2, hlf.1, hlf.2⟩, dec_iff.2 ⟨hrl, by omega, hrn⟩, sl_all]; rfl
      rcases h4 with rfl | rfl
      · exact (congrArg crun ((ro_t15 r n es off fl cd pb cb mb d).trans ht)).trans h
      · exact (congrArg crun ((ro_t16 r n es off fl cd pb cb mb d).trans ht)).trans h
   · cases h
 · cases h)
end Go.Proofs.YtnlmhpancboddaaGreat
/- Attributes are read: withdrawn routes and announced ones. -/
namespace Go.Proofs.YtnlmhpancboddaaGreat
open Go.Am
set_option maxRecDepth 100000
noncomputable abbrev κq := tbl [(49, un_s 1), (123, un_s 3), (70, un_s 4), (124, ro_s)]
theorem qOk : KOk Tryz.prog κq := tbl_cons u8_n (tbl_cons u24_n (tbl_cons u32_n (tbl_cons ro_k ok0)))
noncomputable def roC (r : Rd) (es : List SV) : Bool := bif rdE (rstN r es) == 0 then (r.adv (lfI r).toNat).err == 0 else false
noncomputable def roK (r : Rd) (n : Nat) (es : List SV) (pb cb mb : Bool) (d : Ds) (o : Nat) (K : Bool → Ds → Rd → CTree) : CTree :=
 bif dec (roH r n es pb cb mb d = roH r n es pb cb mb d ∧ OkRd r es ∧ n = es.length ∧ byl es ∧ (o = 15 ∨ o = 16)) then K (roC r es) (dO o (rstN r es) d) (r.adv (lfI r).toNat) else .fail
theorem unr_t (r : Rd) (n : Nat) (es : List SV) (off fl cd : Int) (pb cb mb : Bool) (d : Ds) : opn κq Tryz.f122 (flA off fl cd) (flH r n es pb cb mb d) =
 ruC r n es (bif r.num es 3 == 6470 then roK (r.adv 3) n es pb cb mb d 16 (fun b d' r' => .ret (.bool b) [(3, some (dC pb cb mb d')), (0, some (rC r' n))]) else .ret (.bool false) [(0, some (rC (r.adv 3) n))]) := by
 cases pb <;> cases cb <;> cases mb <;> kernel_rfl
def dNx (d : Ds) (x : Int) : Ds := { d with nx := w3 x }
theorem rch_t (r : Rd) (n : Nat) (es : List SV) (off fl cd : Int) (pb cb mb : Bool) (d : Ds) : opn κq Tryz.f120 (flA off fl cd) (flH r n es pb cb mb d) =
 ruC r n es (bif r.num es 3 != 6470 then .ret (.bool false) [(0, some (rC (r.adv 3) n))] else ruC (r.adv 3) n es (bif (r.adv 3).num es 1 != 4 then .ret (.bool false) [(0, some (rC ((r.adv 3).adv 1) n))] else
  ruC ((r.adv 3).adv 1) n es (ruC (((r.adv 3).adv 1).adv 4) n es (bif (((r.adv 3).adv 1).adv 4).num es 1 == 0 then
   roK ((((r.adv 3).adv 1).adv 4).adv 1) n es pb cb mb (dNx d (((r.adv 3).adv 1).num es 4)) 15 (fun b d' r' => bif b then .ret (.bool (decide ((d'.rch.length : Int) > 0))) [(3, some (dC pb cb mb d')), (0, some (rC r' n))] else .ret (.bool false) [(3, some (dC pb cb mb d')), (0, some (rC r' n))])
   else .ret (.bool false) [(3, some (dC pb cb mb (dNx d (((r.adv 3).adv 1).num es 4)))), (0, some (rC ((((r.adv 3).adv 1).adv 4).adv 1) n))])))) := by
 cases pb <;> cases cb <;> cases mb <;> kernel_rfl
end Go.Proofs.YtnlmhpancboddaaGreat
/- Attributes are read: withdrawn routes, known. -/
namespace Go.Proofs.YtnlmhpancboddaaGreat
open Go.Am
set_option maxRecDepth 100000
theorem lfI_v {s t k : Nat} (h : s + k ≤ t) (ht : t ≤ 1000000) : lfI (RD (s + k) t) = ((t - s - k : Nat) : Int) := left_v h ht
theorem rst_v {es : List SV} {s t k : Nat} (h : s + k ≤ t) (ht : t ≤ 1000000) : rstN (RD (s + k) t) es = (vl es s t).drop k := by
 unfold rstN vl
 rw [lfI_v h ht, show ((t - s - k : Nat) : Int).toNat = t - s - k from rfl, sub_RD (by omega), sl_drop]
 rfl
theorem roC_v {es : List SV} {s t k : Nat} (h : s + k ≤ t) (ht : t ≤ 1000000) : roC (RD (s + k) t) es = (rdE ((vl es s t).drop k) == 0) := by
 unfold roC
 rw [rst_v h ht, lfI_v h ht, show ((t - s - k : Nat) : Int).toNat = t - s - k from rfl, adv_RD (by omega)]
 cases rdE ((vl es s t).drop k) == 0 <;> rfl
theorem roK_ok {r : Rd} {n : Nat} {es : List SV} {pb cb mb : Bool} {d : Ds} {o : Nat} (h1 : OkRd r es) (h2 : n = es.length) (h3 : byl es) (h4 : o = 15 ∨ o = 16) (K : Bool → Ds → Rd → CTree) : roK r n es pb cb mb d o K = K (roC r es) (dO o (rstN r es) d) (r.adv (lfI r).toNat) := by
 unfold roK; rw [dec_iff.2 ⟨rfl, h1, h2, h3, h4⟩]; rfl
theorem told_f {r r' : Rd} {n : Nat} {es : List SV} {pb cb mb : Bool} {d d' : Ds} {ups : List (Nat × Option Chunk)} (hu : ups = [(0, some (rC r' n))] ∨ ups = [(3, some (dC pb cb mb d')), (0, some (rC r' n))]) :
  Am.Told Tryz.prog (flH r n es pb cb mb d) (.bool false) ups (.bool false) [(3, some jk), (0, none)] := by
 rcases hu with rfl | rfl
 · exact ⟨.rfl', told3 (c3 := dC pb cb mb d) jk_of rfl (fun x h0 h6 => by simp only [updF, h0, if_false])⟩
 · exact ⟨.rfl', told3 (c3 := dC pb cb mb d') jk_of rfl (fun x h0 h6 => by simp only [updF, h0, h6, if_false])⟩
theorem told_t {r r' : Rd} {n : Nat} {es : List SV} {pb cb mb : Bool} {d d' : Ds} : Am.Told Tryz.prog (flH r n es pb cb mb d) (.bool true) [(3, some (dC pb cb mb d')), (0, some (rC r' n))] (.bool true) [(3, some (dC pb cb mb d')), (0, none)] :=
 ⟨.rfl', told3 (c3 := dC pb cb mb d') .rfl' rfl (fun x h0 h6 => by simp only [updF, h0, h6, if_false])⟩
noncomputable def unOk (v : List SV) : Bool := bif decide (3 ≤ v.length) then (bif tkN v 0 3 == 6470 then rdE (v.drop 3) == 0 else false) else false
noncomputable def unG (v : List SV) (d : Ds) : Ds := { d with unr := rdL (v.drop 3) }
theorem unr_k : Known Tryz.prog 122 (fl_s (fun _ _ _ => true) unOk unG id id id) := fl_of (openKnown qOk Tryz.func122 rfl) (by
 intro s t n es off fl cd pb cb mb d ho _
 have ht := unr_t (RD s t) n es off fl cd pb cb mb d
 have hl := ho.len
 have hr := ho.rd
 obtain ⟨h1, h2, h3, h4, h5⟩ := ho
 rw [ruC_ok hr h2] at ht
 by_cases h3' : s + 3 ≤ t
 · have a1 : (RD s t).adv 3 = RD (s + 3) t := adv_v (s := s) 0 3 (by omega)
   have m0 : (RD s t).num es 3 = tkN (vl es s t) 0 3 := num_v (n := n) (s := s) 0 3 (by omega)
   rw [m0, a1] at ht
   have hok : unOk (vl es s t) = (bif tkN (vl es s t) 0 3 == 6470 then rdE ((vl es s t).drop 3) == 0 else false) := by
    unfold unOk; rw [hl, decide_eq_true (show 3 ≤ t - s by omega)]; rfl
   rw [hok]
   cases hf : tkN (vl es s t) 0 3 == 6470 with
   | false =>
    rw [hf] at ht
    exact ⟨_, _, congrArg crun ht, .inr (told_f (d' := d) (.inl rfl))⟩
   | true =>
    rw [hf, cond_true, roK_ok (by rw [← a1]; exact hr.adv 3) h2 h1 (.inr rfl), roC_v h3' (by omega), rst_v h3' (by omega)] at ht
    rw [cond_true]
    refine ⟨_, _, congrArg crun ht, .inr ?_⟩
    cases rdE ((vl es s t).drop 3) == 0 with
    | false => exact told_f (.inr rfl)
    | true => exact told_t
 · have hok : unOk (vl es s t) = false := by unfold unOk; rw [hl, decide_eq_false (show ¬ 3 ≤ t - s by omega)]; rfl
   have hf : (RD s t).num es 3 = 0 := by
    have : (RD s t).few 3 = true := by unfold Rd.few RD; exact decide_eq_true (by simp only []; omega)
    unfold Rd.num; rw [this]; rfl
   rw [hf] at ht
   rw [hok]
   exact ⟨_, _, congrArg crun ht, .inr (told_f (d' := d) (.inl rfl))⟩)
end Go.Proofs.YtnlmhpancboddaaGreat
/- Attributes are read: announced routes, known. -/
namespace Go.Proofs.YtnlmhpancboddaaGreat
open Go.Am
set_option maxRecDepth 100000
noncomputable def rcOk (v : List SV) : Bool := bif decide (9 ≤ v.length) then (bif tkN v 0 3 == 6470 then (bif dg v 3 == 4 then (bif dg v 8 == 0 then (bif rdE (v.drop 9) == 0 then decide (((rdL (v.drop 9)).length : Int) > 0) else false) else false) else false) else false) else false
noncomputable def rcG (v : List SV) (d : Ds) : Ds := { d with nx := tkN v 4 4, rch := rdL (v.drop 9) }
theorem roC_bad {r : Rd} {es : List SV} (h : (r.err != 0) = true) : roC r es = false := by
 unfold roC
 rw [adv_bad h]
 have : (r.err == 0) = false := by simpa using h
 rw [this]
 cases rdE (rstN r es) == 0 <;> rfl
theorem rch_k : Known Tryz.prog 120 (fl_s (fun _ _ _ => true) rcOk rcG id id id) := fl_of (openKnown qOk Tryz.func120 rfl) (by
 intro s t n es off fl cd pb cb mb d ho _
 have ht := rch_t (RD s t) n es off fl cd pb cb mb d
 have hl := ho.len
 have hr := ho.rd
 obtain ⟨h1, h2, h3, h4, h5⟩ := ho
 have hv : byl (vl es s t) := h1.sl _ _
 rw [ruC_ok hr h2, ruC_ok (hr.adv 3) h2, ruC_ok ((hr.adv 3).adv 1) h2, ruC_ok (((hr.adv 3).adv 1).adv 4) h2, roK_ok ((((hr.adv 3).adv 1).adv 4).adv 1) h2 h1 (.inl rfl)] at ht
 by_cases h9 : s + 9 ≤ t
 · have a1 : (RD s t).adv 3 = RD (s + 3) t := adv_v (s := s) 0 3 (by omega)
   have a2 : (RD (s + 3) t).adv 1 = RD (s + 4) t := adv_v 3 1 (by omega)
   have a3 : (RD (s + 4) t).adv 4 = RD (s + 8) t := adv_v 4 4 (by omega)
   have a4 : (RD (s + 8) t).adv 1 = RD (s + 9) t := adv_v 8 1 (by omega)
   have m0 : (RD s t).num es 3 = tkN (vl es s t) 0 3 := num_v (n := n) (s := s) 0 3 (by omega)
   have m1 : (RD (s + 3) t).num es 1 = dg (vl es s t) 3 := by rw [← tk1]; exact num_v (n := n) 3 1 (by omega)
   have m2 : (RD (s + 4) t).num es 4 = tkN (vl es s t) 4 4 := num_v (n := n) 4 4 (by omega)
   have m3 : (RD (s + 8) t).num es 1 = dg (vl es s t) 8 := by rw [← tk1]; exact num_v (n := n) 8 1 (by omega)
   obtain ⟨q5, q6⟩ := tkN_rng hv.ok 4 4
   have hok : rcOk (vl es s t) = (bif tkN (vl es s t) 0 3 == 6470 then (bif dg (vl es s t) 3 == 4 then (bif dg (vl es s t) 8 == 0 then (bif rdE ((vl es s t).drop 9) == 0 then decide (((rdL ((vl es s t).drop 9)).length : Int) > 0) else false) else false) else false) else false) := by
    unfold rcOk; rw [hl, decide_eq_true (show 9 ≤ t - s by omega)]; rfl
   rw [a1, a2, a3, a4, m0, m1, m2, m3, roC_v h9 (by omega), rst_v h9 (by omega)] at ht
   rw [hok]
   cases hf : tkN (vl es s t) 0 3 == 6470 with
   | false =>
    rw [show (tkN (vl es s t) 0 3 != 6470) = true by unfold bne; rw [hf]; rfl] at ht
    exact ⟨_, _, congrArg crun ht, .inr (told_f (d' := d) (.inl rfl))⟩
   | true =>
    rw [show (tkN (vl es s t) 0 3 != 6470) = false by unfold bne; rw [hf]; rfl, cond_false] at ht
    rw [cond_true]
    cases hg : dg (vl es s t) 3 == 4 with
    | false =>
     rw [show (dg (vl es s t) 3 != 4) = true by unfold bne; rw [hg]; rfl] at ht
     exact ⟨_, _, congrArg crun ht, .inr (told_f (d' := d) (.inl rfl))⟩
    | true =>
     rw [show (dg (vl es s t) 3 != 4) = false by unfold bne; rw [hg]; rfl, cond_false] at ht
     rw [cond_true]
     cases hh : dg (vl es s t) 8 == 0 with
     | false =>
      rw [hh] at ht
      exact ⟨_, _, congrArg crun ht, .inr (told_f (.inr rfl))⟩
     | true =>
      rw [hh, cond_true] at ht
      rw [cond_true]
      cases hk : rdE ((vl es s t).drop 9) == 0 with
      | false =>
       rw [hk] at ht
       exact ⟨_, _, congrArg crun ht, .inr (told_f (.inr rfl))⟩
      | true =>
       rw [hk, cond_true] at ht
       rw [cond_true]
       have hd : dO 15 ((vl es s t).drop 9) (dNx d (tkN (vl es s t) 4 4)) = rcG (vl es s t) d := by
        unfold dO dNx rcG
        rw [w3_id q5 q6]; rfl
       rw [hd] at ht
       refine ⟨_, _, congrArg crun ht, .inr ?_⟩
       show Am.Told _ _ (.bool (decide (((rdL ((vl es s t).drop 9)).length : Int) > 0))) _ _ _
       cases decide (((rdL ((vl es s t).drop 9)).length : Int) > 0) with
       | false => exact told_f (.inr rfl)
       | true => exact told_t
 · have hok : rcOk (vl es s t) = false := by unfold rcOk; rw [hl, decide_eq_false (show ¬ 9 ≤ t - s by omega)]; rfl
   rw [hok]
   have hbad : (((((((RD s t).adv 3).adv 1).adv 4).adv 1)).err != 0) = true := by
    by_cases c1 : s + 3 ≤ t
    · have a1 : (RD s t).adv 3 = RD (s + 3) t := adv_v (s := s) 0 3 (by omega)
      rw [a1]
      by_cases c2 : s + 4 ≤ t
      · rw [adv_v (s := s) (t := t) 3 1 (by omega)]
        by_cases c3 : s + 8 ≤ t
        · rw [adv_v (s := s) (t := t) (3 + 1) 4 (by omega)]; exact few_err (by omega)
        · exact adv_err (few_err (by omega)) _
      · exact adv_err (adv_err (few_err (by omega)) _) _
    · exact adv_err (adv_err (adv_err (few_err c1) _) _) _
   rw [roC_bad hbad] at ht
   cases hf : ((RD s t).num es 3 != 6470) with
   | true => rw [hf] at ht; exact ⟨_, _, congrArg crun ht, .inr (told_f (d' := d) (.inl rfl))⟩
   | false =>
    rw [hf, cond_false] at ht
    cases hg : (((RD s t).adv 3).num es 1 != 4) with
    | true => rw [hg] at ht; exact ⟨_, _, congrArg crun ht, .inr (told_f (d' := d) (.inl rfl))⟩
    | false =>
     rw [hg, cond_false] at ht
     cases hh : ((((RD s t).adv 3).adv 1).adv 4).num es 1 == 0 with
     | true => rw [hh] at ht; exact ⟨_, _, congrArg crun ht, .inr (told_f (.inr rfl))⟩
     | false => rw [hh] at ht; exact ⟨_, _, congrArg crun ht, .inr (told_f (.inr rfl))⟩)
end Go.Proofs.YtnlmhpancboddaaGreat
/- Attributes are read: lists of words, the loops' summaries. -/
namespace Go.Proofs.YtnlmhpancboddaaGreat
open Go.Am
set_option maxRecDepth 100000
def rCk (k : Nat) (r : Rd) (n : Nat) : Chunk := .cells 157 [.int .i64 r.at_, .int .i64 r.end_, .qs k 1 0 n, .int .i64 r.err, .int .i64 r.fat, .bool true]
def dLx (p c m : SV) (d : Ds) : Chunk := .cells 177 [.int .i64 d.ori, p, .int .u32 d.nx, .bool d.hm, .int .u32 d.med, .bool d.hp, .int .u32 d.prf, .bool d.ho, .int .u32 d.orr, c, m, .int .i64 d.tk, .int .u32 d.tl, .int .u32 d.tr, .int .u32 d.tg, .psl 88 d.rch, .psl 88 d.unr]
structure Ax where
 (off fl cd : Int)
def aC (k : Nat) (x : Ax) : Chunk := .cells 182 [.ptr k 0, .int .i64 x.off, .int .u8 x.fl, .int .u8 x.cd]
def wd (es : List SV) (a : Nat) : Nat → List SV
 | 0 => []
 | k + 1 => .int .u32 (tkN es a 4) :: wd es (a + 4) k
theorem wd_len (es : List SV) : ∀ (k a : Nat), (wd es a k).length = k
 | 0, _ => rfl
 | k + 1, a => by simp [wd, wd_len es k (a + 4)]
def cw (es : List SV) (a : Nat) : Nat → List SV
 | 0 => []
 | k + 1 => .agg (bvals (sl es a 8) 0 8) :: cw es (a + 8) k
theorem cw_len (es : List SV) : ∀ (k a : Nat), (cw es a k).length = k
 | 0, _ => rfl
 | k + 1, a => by simp [cw, cw_len es k (a + 8)]
def bsOf : SV → Bool
 | .psl _ _ => false
 | _ => true
def dQ : List SV → Option (Bool × Bool × Bool × Ds)
 | [.int .i64 ori, p, .int .u32 nx, .bool hm, .int .u32 med, .bool hp, .int .u32 prf, .bool ho, .int .u32 orr, c, m, .int .i64 tk, .int .u32 tl, .int .u32 tr, .int .u32 tg, .psl 88 rch, .psl 88 unr] =>
  some (bsOf p, bsOf c, bsOf m, ⟨ori, nx, med, prf, orr, tk, tl, tr, tg, hm, hp, ho, asL p, asL c, asL m, rch, unr⟩)
 | _ => none
def pOk (z s t n : Nat) (es : List SV) (m i : Int) : Prop := okV es n s t ∧ 0 ≤ i ∧ i ≤ m ∧ m ≤ 1000 ∧ s + z * (m - i).toNat ≤ t
theorem byP_f (r : Rd) (n : Nat) (es rs : List SV) (c : Chunk) : Frozen Tryz.prog (rH r n es) (.qs 2 1 0 rs.length) [(0, some c), (2, some (.seq 5 rs))] (.psl 5 rs) [(0, some c)] := by
 refine ⟨2, 5, rs, rfl, .qs rfl, fun x c' hx => ?_⟩
 by_cases h0 : x = 0
 · subst h0; simp only [updF, if_true] at hx; cases hx; exact ⟨by decide, _, rfl, .rfl'⟩
 · simp only [updF, h0, if_false] at hx
   have h2 : x ≠ 2 := by rintro rfl; cases hx
   exact ⟨h2, c', by simp only [updF, h0, h2, if_false]; exact hx, .rfl'⟩
noncomputable def byP_s : CSumm := fun args H => match args with
 | [.ptr 0 0, .int .i64 k] => match rOf H with
  | some (r, n, es) => .ite (dec (OkRd r es ∧ n = es.length ∧ 0 ≤ k ∧ k ≤ 1000000)) (.ret (.psl 5 (r.sub es k.toNat)) [(0, some (rC (r.adv k.toNat) n))]) .fail
  | none => .fail
 | _ => .fail
theorem byP_k : Known Tryz.prog 126 byP_s := known_frz byR_k (by
 intro args H v ups h
 unfold byP_s at h
 split at h
 · rename_i k
   split at h
   · rename_i r n es hr
     rw [crun_ite] at h
     cases hc : dec (OkRd r es ∧ n = es.length ∧ 0 ≤ k ∧ k ≤ 1000000) with
     | false => rw [hc] at h; cases h
     | true =>
      rw [hc, cond_true] at h
      cases h
      refine .inr ⟨.qs 2 1 0 (r.sub es k.toNat).length, [(0, some (rC (r.adv k.toNat) n)), (2, some (.seq 5 (r.sub es k.toNat)))], ?_, ?_⟩
      · unfold byR_s
        simp only [hr]
        rw [crun_ite, hc]; rfl
      · rw [rOf_h hr]; exact byP_f ..
   · cases h
 · cases h)
noncomputable abbrev κpt := tbl [(70, un_s 4), (126, byP_s)]
theorem pttOk : KOk Tryz.prog κpt := tbl_cons u32_n (tbl_cons byP_k ok0)
noncomputable abbrev κy := openT Tryz.prog κpt 300 5
noncomputable abbrev ιy : Nat → Bool := fun g => inl κpt g && hasBody Tryz.prog g
/- The path. -/
noncomputable def body54 : Code := Tryz.f114.body.getD .skip
noncomputable def c54 : Code := (loopAt 8 body54).getD .skip
def pA (r : Rd) (n : Nat) (es : List SV) (x : Ax) (cb mb : Bool) (d : Ds) : HpL := [(0, dLx .nils (nz cb 37 d.cl) (nz mb 136 d.cm) d), (1, aC 2 x), (2, rCk 3 r n), (3, .seq 5 es)]
def pB (r : Rd) (n : Nat) (es : List SV) (x : Ax) (cb mb : Bool) (d : Ds) (j : Nat) (l : List SV) : HpL := [(0, dLx (.qs 1 1 0 j) (nz cb 37 d.cl) (nz mb 136 d.cm) d), (1, .seq 36 l), (2, aC 3 x), (3, rCk 4 r n), (4, .seq 5 es)]
noncomputable def pt_s : CSumm := fun args H => match args, H with
 | [.ptr 0 0, .ptr 1 0, .int .i64 m, .int .i64 i], [(0, .cells 177 cs), (1, .cells 182 [_, .int .i64 off, .int .u8 fl, .int .u8 cd]), (2, .cells 157 [.int .i64 a, .int .i64 e, .qs 3 1 0 n, _, _, _]), (3, .seq 5 es)] =>
  match dQ cs with
  | some (_, c, k, d) => .ite (dec (H = pA (RD a.toNat e.toNat) n es ⟨off, fl, cd⟩ c k d ∧ pOk 4 a.toNat e.toNat n es m i ∧ i < m))
    (.ret (.tup [.int .i64 2]) [(0, some (dLx (.qs 4 1 0 (m - i).toNat) (nz c 37 d.cl) (nz k 136 d.cm) d)), (2, some (rCk 3 (RD (a.toNat + 4 * (m - i).toNat) e.toNat) n)), (4, some (.seq 36 (wd es a.toNat (m - i).toNat)))]) .fail
  | none => .fail
 | [.ptr 0 0, .ptr 2 0, .int .i64 m, .int .i64 i], [(0, .cells 177 cs), (1, .seq 36 l), (2, .cells 182 [_, .int .i64 off, .int .u8 fl, .int .u8 cd]), (3, .cells 157 [.int .i64 a, .int .i64 e, .qs 4 1 0 n, _, _, _]), (4, .seq 5 es)] =>
  match dQ cs with
  | some (_, c, k, d) => .ite (dec (H = pB (RD a.toNat e.toNat) n es ⟨off, fl, cd⟩ c k d l.length l ∧ pOk 4 a.toNat e.toNat n es m i ∧ l.length + (m - i).toNat ≤ 2000))
    (.ret (.tup [.int .i64 2]) [(0, some (dLx (.qs 5 1 0 (l.length + (m - i).toNat)) (nz c 37 d.cl) (nz k 136 d.cm) d)), (1, none), (3, some (rCk 4 (RD (a.toNat + 4 * (m - i).toNat) e.toNat) n)), (5, some (.seq 36 (l ++ wd es a.toNat (m - i).toNat)))]) .fail
  | none => .fail
 | _, _ => .fail
def ptM : List SV → HpL → Nat
 | [_, _, .int _ m, .int _ i], _ => (m - i).toNat
 | _, _ => 0
noncomputable def e54 : LEnt := { ins := [0, 3, 36, 37], outs := [], keep := [], size := 55, code := c54, s := pt_s }
end Go.Proofs.YtnlmhpancboddaaGreat
/- Attributes are read: the loop over a path, a round. -/
namespace Go.Proofs.YtnlmhpancboddaaGreat
open Go.Am
set_option maxRecDepth 100000
noncomputable def pNx (N q : Nat) (r : Rd) (n : Nat) (es : List SV) (x : Ax) (cb mb : Bool) (d : Ds) (m i : Int) (j : Nat) (l : List SV) (K : Chunk → Rd → List SV → CTree) : CTree :=
 bif Nat.blt (m - i).toNat N then bif dec (pB r n es x cb mb d j l = pB (RD r.at_.toNat r.end_.toNat) n es x cb mb d l.length l ∧ pOk 4 r.at_.toNat r.end_.toNat n es m i ∧ l.length + (m - i).toNat ≤ 2000) then
  K (dLx (.qs q 1 0 (l.length + (m - i).toNat)) (nz cb 37 d.cl) (nz mb 136 d.cm) d) (RD (r.at_.toNat + 4 * (m - i).toNat) r.end_.toNat) (l ++ wd es r.at_.toNat (m - i).toNat)
 else .fail else .fail
theorem pt_a (N : Nat) (r : Rd) (n : Nat) (es : List SV) (x : Ax) (cb mb : Bool) (d : Ds) (m i : Int) : loopOnce Tryz.prog κy ιy (ltab []) true 300 e54 { e54 with s := boundT ptM pt_s N } c54 [.ptr 0 0, .ptr 1 0, .int .i64 m, .int .i64 i] (pA r n es x cb mb d) =
 bif decide (i < m) then bif dec (OkRd r es ∧ n = es.length) then pNx N 4 (r.adv 4) n es x cb mb d m (IntKind.i64.wrap (i + 1)) 1 [.int .u32 (w3 (r.num es 4))] (fun c r' l' => .ret (.tup [.int .i64 2]) [(0, some c), (2, some (rCk 3 r' n)), (4, some (.seq 36 l'))])
 else .fail else .ret (.tup [.int .i64 2]) [] := by cases cb <;> cases mb <;> kernel_rfl
theorem pt_b (N : Nat) (r : Rd) (n : Nat) (es : List SV) (x : Ax) (cb mb : Bool) (d : Ds) (m i : Int) (j : Nat) (l : List SV) : loopOnce Tryz.prog κy ιy (ltab []) true 300 e54 { e54 with s := boundT ptM pt_s N } c54 [.ptr 0 0, .ptr 2 0, .int .i64 m, .int .i64 i] (pB r n es x cb mb d j l) =
 bif decide (i < m) then bif dec (OkRd r es ∧ n = es.length) then bif decide (j = l.length) then bif decide (l.length + 1 ≤ 9223372036854775807) && decide ((l.length + 1) * 4 ≤ 140737488355328) then pNx N 5 (r.adv 4) n es x cb mb d m (IntKind.i64.wrap (i + 1)) (l.length + 1) (l ++ [.int .u32 (w3 (r.num es 4))]) (fun c r' l' => .ret (.tup [.int .i64 2]) [(0, some c), (1, none), (3, some (rCk 4 r' n)), (5, some (.seq 36 l'))])
 else .fail else .fail else .fail else .ret (.tup [.int .i64 2]) [] := by cases cb <;> cases mb <;> kernel_rfl
end Go.Proofs.YtnlmhpancboddaaGreat
