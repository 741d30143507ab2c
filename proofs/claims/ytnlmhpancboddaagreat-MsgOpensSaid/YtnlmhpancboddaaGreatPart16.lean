/- Messages: the parameters of an OPEN are visited. -/
import Derived.Test.YtnlmhpancboddaaGreatPart15
import Derived.Test.YtnlmhpancboddaaGreatPart14
import Derived.Test.YtnlmhpancboddaaGreatMachine7
import Derived.Test.YtnlmhpancboddaaGreatMachine6
import Derived.Test.YtnlmhpancboddaaGreatPart3
set_option linter.unusedVariables false
set_option linter.unusedSimpArgs false
namespace Go.Proofs.YtnlmhpancboddaaGreat
open Go.Am
set_option maxRecDepth 100000
def csO (s : Cs) : HpL := [(0, .cells 159 [.fn (.func 72) [] [.ptr 1 0, .ptr 2 0, .ptr 3 0, .ptr 4 0]]), (1, .cells 4 [.bool s.ev]), (2, .cells 4 [.bool s.nu]), (3, .cells 39 (oV s)), (4, .cells 4 [.bool s.rs])]
def csQ (s : Cs) : List (Nat × Option Chunk) := [(4, some (.cells 4 [.bool s.rs])), (3, some (.cells 39 (oV s))), (2, some (.cells 4 [.bool s.nu])), (1, some (.cells 4 [.bool s.ev]))]
def csV (s : Cs) : List (Nat × Option Chunk) := [(1, some (.cells 4 [.bool s.ev])), (2, some (.cells 4 [.bool s.nu])), (3, some (.cells 39 (oV s))), (4, some (.cells 4 [.bool s.rs]))]
def coOf : HpL → Option Cs
 | [(0, .cells 159 [.fn (.func 72) [] [.ptr 1 0, .ptr 2 0, .ptr 3 0, .ptr 4 0]]), (1, .cells 4 [.bool ev]), (2, .cells 4 [.bool nu]), (3, .cells 39 [.int .u32 asn, .int .i64 hold, .int .u32 id, .int .i64 rst, .bool rsd]), (4, .cells 4 [.bool rs])] => some ⟨ev, nu, rs, asn, hold, id, rst, rsd⟩
 | _ => none
theorem coOf_h {H : HpL} {s : Cs} (h : coOf H = some s) : H = csO s := by
 unfold coOf at h
 split at h
 · cases h; rfl
 · cases h
theorem co_hi (s : Cs) (x : Nat) : (csO s).get (x + 5) = none := by
 have h2 : ∀ k, k < 5 → Nat.beq k (x + 5) = false := fun k hk => nb_f (by omega)
 simp only [csO, HpL.get, h2 0 (by omega), h2 1 (by omega), h2 2 (by omega), h2 3 (by omega), h2 4 (by omega), cond_false]
theorem co_ext {s t : Cs} {u : List (Nat × Option Chunk)} (ha : u.all (fun p => decide (p.1 < 5)) = true) (h0 : updF u (csO s).get 0 = (csO t).get 0) (h1 : updF u (csO s).get 1 = (csO t).get 1) (h2 : updF u (csO s).get 2 = (csO t).get 2) (h3 : updF u (csO s).get 3 = (csO t).get 3) (h4 : updF u (csO s).get 4 = (csO t).get 4) : ∀ x, updF u (csO s).get x = (csO t).get x
 | 0 => h0 | 1 => h1 | 2 => h2 | 3 => h3 | 4 => h4
 | x + 5 => by rw [upd_hi u _ ha, co_hi, co_hi]
theorem csV_all (s t : Cs) : ∀ x, updF (csV t) (csO s).get x = (csO t).get x := co_ext rfl rfl rfl rfl rfl rfl
theorem csQ_all (s t : Cs) : ∀ x, updF (csQ t) (csO s).get x = (csO t).get x := co_ext rfl rfl rfl rfl rfl rfl
def parF (c : Int) (v : List SV) (s : Cs) : Bool × Cs := bif c == 2 then visL capF v s else (false, s)
def parA (c : Int) (v : List SV) : List SV := [.int .u8 c, .psl 5 v, .ptr 0 0]
theorem par_t (c : Int) (v : List SV) (s : Cs) : opn (tbl [(73, visI_s)]) Tryz.f74 (parA c v) (csO s) = bif c == 2 then bylC v (.ret (.bool (visL capF v s).1) (csQ (visL capF v s).2)) else .ret (.bool false) [] := by kernel_rfl
noncomputable def par_s : CSumm := fun args H => match args with
 | [.int .u8 c, .psl 5 v, .ptr 0 0] => match coOf H with
  | some s => .ite (dec (byl v ∧ v.length ≤ 1000000)) (.ret (.bool (parF c v s).1) (csV (parF c v s).2)) .fail
  | none => .fail
 | _ => .fail
theorem par_k : Known Tryz.prog 74 par_s := known_ups (openKnown (tbl_cons visI_k ok0) Tryz.func74 rfl) (by
 intro args H v' ups' h
 unfold par_s at h
 split at h
 · rename_i c v
   split at h
   · rename_i s hs
     rw [crun_ite] at h
     cases hc : dec (byl v ∧ v.length ≤ 1000000) with
     | false => rw [hc] at h; cases h
     | true =>
      rw [hc, cond_true] at h
      obtain ⟨hb, hl⟩ := dec_iff.1 hc
      rw [coOf_h hs]
      have ht := par_t c v s
      rw [bylC_ok hb hl] at ht
      unfold parF at h
      cases c2 : c == 2 with
      | true =>
       rw [c2, cond_true] at ht h
       cases h
       exact ⟨_, congrArg crun ht, funext fun x => by rw [csV_all, csQ_all]⟩
      | false =>
       rw [c2, cond_false] at ht h
       cases h
       exact ⟨_, congrArg crun ht, funext fun x => csV_all s s x⟩
   · cases h
 · cases h)
def visB (p : List SV) : List SV := [.psl 5 p, .fn (.func 74) [] [.ptr 0 0]]
noncomputable def visO_s : CSumm := fun args H => match args with
 | [.psl 5 p, .fn (.func 74) [] [.ptr 0 0]] => match coOf H with
  | some s => .ite (dec (byl p ∧ p.length ≤ 1000000)) (.ret (.bool (visL parF p s).1) (csV (visL parF p s).2)) .fail
  | none => .fail
 | _ => .fail
noncomputable def visKo (N : Nat) (p : List SV) (s : Cs) (e : Int) : CTree :=
 bif inB 0 p.length then slI p 2 e fun v => bylC v (bif (parF (dg p 0) v s).1 then slI p e p.length fun q => (bif Nat.blt q.length N then bylC q (.ret (.bool (visL parF q (parF (dg p 0) v s).2).1) (csQ (visL parF q (parF (dg p 0) v s).2).2)) else .fail) else .ret (.bool false) (csQ (parF (dg p 0) v s).2)) else .fail
theorem visO_t (N : Nat) (p : List SV) (s : Cs) : opn (tbl [(73, boundT visM visO_s N), (74, par_s)]) Tryz.f73 (visB p) (csO s) =
 bif (p.length : Int) == 0 then .ret (.bool true) [] else bif decide ((p.length : Int) < 2) then .ret (.bool false) [] else bif inB 1 p.length then bif decide ((p.length : Int) < w64 (2 + w64 (dg p 1))) then .ret (.bool false) [] else
  bif inB 1 p.length then visKo N p s (w64 (2 + w64 (dg p 1))) else .fail else .fail := by kernel_rfl
theorem visO_k : Known Tryz.prog 73 visO_s := known_rec (μ := visM) ⟨Tryz.f73, Tryz.func73, noNum_at noNumTry Tryz.func73, rfl⟩ (fun N hN => known_ups (openKnown (tbl_cons hN (tbl_cons par_k ok0)) Tryz.func73 rfl) (by
 intro args H v' ups' h
 replace h := boundT_at h
 obtain ⟨hb, h⟩ := h
 unfold visO_s at h
 split at h
 · rename_i p
   split at h
   · rename_i s hs
     rw [crun_ite] at h
     cases hc : dec (byl p ∧ p.length ≤ 1000000) with
     | false => rw [hc] at h; cases h
     | true =>
      rw [hc, cond_true] at h
      obtain ⟨hp, hl⟩ := dec_iff.1 hc
      rw [coOf_h hs]
      have ht := visO_t N p s
      have hM : Nat.blt p.length (N + 1) = true := hb
      rw [Nat.blt_eq] at hM
      have fin : ∀ {b : Bool} {t : Cs} {u : List (Nat × Option Chunk)}, opn (tbl [(73, boundT visM visO_s N), (74, par_s)]) Tryz.f73 (visB p) (csO s) = .ret (.bool b) u → crun (.ret (.bool b) (csV t)) = some (v', ups') → (∀ x, updF u (csO s).get x = (csO t).get x) → ∃ ups, crun (opn (tbl [(73, boundT visM visO_s N), (74, par_s)]) Tryz.f73 [.psl 5 p, .fn (.func 74) [] [.ptr 0 0]] (csO s)) = some (v', ups) ∧ updF ups' (csO s).get = updF ups (csO s).get := by
       intro b t u h1 h2 h3
       cases h2
       exact ⟨u, congrArg crun h1, funext fun x => by rw [csV_all, h3]⟩
      by_cases h0 : p.length = 0
      · rw [visL_nil h0] at h
        rw [show ((p.length : Int) == 0) = true by rw [beq_iff_eq]; omega, cond_true] at ht
        exact fin ht h (fun x => rfl)
      · rw [visL_step h0] at h
        rw [show ((p.length : Int) == 0) = false by rw [beq_eq_false_iff_ne]; omega, cond_false] at ht
        by_cases h2 : (p.length : Int) < 2
        · rw [decide_eq_true h2, cond_true] at ht h
          exact fin ht h (fun x => rfl)
        · obtain ⟨r1, r2⟩ := hp.ok 1
          have hw : w64 (2 + w64 (dg p 1)) = 2 + dg p 1 := by
           rw [show w64 (dg p 1) = dg p 1 from w64_id (by omega) (by omega)]; exact w64_id (by omega) (by omega)
          rw [decide_eq_false h2, cond_false] at ht h
          rw [inB_ok (by omega) (by omega), cond_true, cond_true, hw] at ht
          by_cases h3 : (p.length : Int) < 2 + dg p 1
          · rw [decide_eq_true h3, cond_true] at ht h
            exact fin ht h (fun x => rfl)
          · rw [decide_eq_false h3, cond_false] at ht h
            have hq : (p.drop (2 + (dg p 1).toNat)).length = p.length - (2 + (dg p 1).toNat) := List.length_drop
            unfold visKo at ht
            rw [inB_ok (by omega) (by omega), cond_true, slI_ok (a := 2) (b := 2 + dg p 1) (i := 2) (j := 2 + (dg p 1).toNat) rfl (by omega) (by omega) (by omega), show 2 + (dg p 1).toNat - 2 = (dg p 1).toNat by omega, bylC_ok (hp.sl _ _) (by rw [sl_len (by omega)]; omega)] at ht
            generalize parF (dg p 0) (sl p 2 (dg p 1).toNat) s = q at *
            cases hq1 : q.1 with
            | true =>
             rw [hq1, cond_true] at ht h
             rw [slI_ok (a := 2 + dg p 1) (b := (p.length : Int)) (i := 2 + (dg p 1).toNat) (j := p.length) (by omega) rfl (by omega) (by omega), sl_end, show Nat.blt (p.drop (2 + (dg p 1).toNat)).length N = true by rw [Nat.blt_eq, hq]; omega, cond_true, bylC_ok (byl_dr hp _) (by omega)] at ht
             exact fin ht h (csQ_all s _)
            | false =>
             rw [hq1, cond_false] at ht h
             exact fin ht h (csQ_all s _)
   · cases h
 · cases h))
end Go.Proofs.YtnlmhpancboddaaGreat
/- Messages: the body of an OPEN. -/
namespace Go.Proofs.YtnlmhpancboddaaGreat
open Go.Am
set_option maxRecDepth 100000
noncomputable abbrev κro := tbl [(47, nrp_s), (48, un_s 2), (49, un_s 1), (70, un_s 4), (73, visO_s)]
theorem roOk : KOk Tryz.prog κro := tbl_cons nrp_k (tbl_cons u16_n (tbl_cons u8_n (tbl_cons u32_n (tbl_cons visO_k ok0))))
def cs0 : Cs := ⟨false, false, false, 0, 0, 0, 0, false⟩
def opV (s : Cs) : SV := .agg (oV s)
def roR (s : Cs) (e : Int) : CTree := .ret (.tup [opV s, .int .i64 e]) []
noncomputable def roV (p : List SV) (s : Cs) : CTree := slI p 10 p.length fun q => bylC q ((fun t : Bool × Cs => bif (bif (bif !t.1 then true else !t.2.ev) then true else !t.2.nu) then roR cs0 3 else roR t.2 0) (visL parF q s))
noncomputable def roW (p : List SV) (r : Rd) (hold id : Int) : CTree := unC r p 1 fun n r => bif w64 n != lfI r then roR cs0 3 else roV p { cs0 with hold := w64 hold, id := w3 id }
theorem ro_t (p : List SV) : opn κro Tryz.f51 [.psl 5 p] [] =
 bif decide ((p.length : Int) < 10) then roR cs0 3 else newC p fun r => unC r p 1 fun ver r => bif ver != 4 then roR cs0 15 else unC r p 2 fun _ r => unC r p 2 fun hold r => unC r p 4 fun id r =>
  bif w64 hold != 0 then bif decide (w64 hold < 3) then roR cs0 3 else roW p r hold id else roW p r hold id := by kernel_rfl
def roP (p : List SV) : Cs × Int :=
 bif decide (p.length < 10) then (cs0, 3) else bif dg p 0 != 4 then (cs0, 15) else bif (bif tkN p 3 2 != 0 then decide (tkN p 3 2 < 3) else false) then (cs0, 3) else bif dg p 9 != (p.length : Int) - 10 then (cs0, 3) else
 (fun t : Bool × Cs => bif (bif (bif !t.1 then true else !t.2.ev) then true else !t.2.nu) then (cs0, 3) else (t.2, 0)) (visL parF (p.drop 10) { cs0 with hold := tkN p 3 2, id := tkN p 5 4 })
noncomputable def ropen_s : CSumm := fun args H => match args, H with
 | [.psl 5 p], [] => .ite (dec (byl p ∧ p.length ≤ 1000000)) (roR (roP p).1 (roP p).2) .fail
 | _, _ => .fail
theorem p4 : (256 : Int) ^ 4 = 4294967296 := by decide
theorem ropen_k : Known Tryz.prog 51 ropen_s := (openKnown roOk Tryz.func51 rfl).weak (by
 intro args H v ups h
 unfold ropen_s at h
 split at h
 · rename_i p
   rw [crun_ite] at h
   cases hc : dec (byl p ∧ p.length ≤ 1000000) with
   | false => rw [hc] at h; cases h
   | true =>
    rw [hc, cond_true] at h
    obtain ⟨hb, hl⟩ := dec_iff.1 hc
    refine (congrArg crun (ro_t p)).trans ?_
    unfold roP at h
    by_cases h10 : p.length < 10
    · rw [decide_eq_true (show (p.length : Int) < 10 by omega), cond_true]
      rw [decide_eq_true h10] at h
      exact h
    · have ho : ∀ s, s ≤ p.length → OkRd (RD s p.length) p := fun s hs => okRD hb hl hs
      obtain ⟨a0, a1⟩ := tkN_rng hb.ok 3 2
      obtain ⟨b0, b1⟩ := tkN_rng hb.ok 5 4
      obtain ⟨d0, d1⟩ := hb.ok 9
      rw [p2] at a1
      rw [p4] at b1
      have hlf : lfI (RD 10 p.length) = (p.length : Int) - 10 := by
       have := lfI_v (s := 10) (t := p.length) (k := 0) (by omega) hl
       rw [Nat.add_zero] at this
       rw [this]; omega
      rw [decide_eq_false h10, cond_false] at h
      rw [decide_eq_false (show ¬ (p.length : Int) < 10 by omega), cond_false, newC_ok hl, unC_ok (ho 0 (by omega)), num_RD (by omega), adv_RD (by omega), tk1]
      cases c1 : dg p 0 != 4 with
      | true => rw [c1, cond_true] at h; exact h
      | false =>
       rw [c1, cond_false] at h
       rw [cond_false, unC_ok (ho 1 (by omega)), adv_RD (by omega), unC_ok (ho 3 (by omega)), num_RD (by omega), adv_RD (by omega), unC_ok (ho 5 (by omega)), num_RD (by omega), adv_RD (by omega), show w64 (tkN p 3 2) = tkN p 3 2 from w64_id (by omega) (by omega)]
       have hW : roW p (RD 9 p.length) (tkN p 3 2) (tkN p 5 4) = bif dg p 9 != (p.length : Int) - 10 then roR cs0 3 else (fun t : Bool × Cs => bif (bif (bif !t.1 then true else !t.2.ev) then true else !t.2.nu) then roR cs0 3 else roR t.2 0) (visL parF (p.drop 10) { cs0 with hold := tkN p 3 2, id := tkN p 5 4 }) := by
        unfold roW roV
        rw [unC_ok (ho 9 (by omega)), num_RD (by omega), adv_RD (by omega), tk1, hlf, show w64 (dg p 9) = dg p 9 from w64_id (by omega) (by omega), show w64 (tkN p 3 2) = tkN p 3 2 from w64_id (by omega) (by omega), w3_id b0 b1, slI_ok (a := 10) (b := (p.length : Int)) (i := 10) (j := p.length) rfl rfl (by omega) (by omega), sl_end, bylC_ok (byl_dr hb _) (by rw [List.length_drop]; omega)]
       rw [hW]
       generalize visL parF (p.drop 10) { cs0 with hold := tkN p 3 2, id := tkN p 5 4 } = t at *
       have e : ∀ x : Bool, crun (roR (bif x then (cs0, (3 : Int)) else bif dg p 9 != (p.length : Int) - 10 then (cs0, 3) else (bif (bif (bif !t.1 then true else !t.2.ev) then true else !t.2.nu) then (cs0, 3) else (t.2, 0))).1 (bif x then (cs0, (3 : Int)) else bif dg p 9 != (p.length : Int) - 10 then (cs0, 3) else (bif (bif (bif !t.1 then true else !t.2.ev) then true else !t.2.nu) then (cs0, 3) else (t.2, 0))).2) =
         crun (bif x then roR cs0 3 else bif dg p 9 != (p.length : Int) - 10 then roR cs0 3 else (bif (bif (bif !t.1 then true else !t.2.ev) then true else !t.2.nu) then roR cs0 3 else roR t.2 0)) := fun x => by
        cases x <;> cases (dg p 9 != (p.length : Int) - 10) <;> cases (bif (bif !t.1 then true else !t.2.ev) then true else !t.2.nu) <;> rfl
       cases c2 : tkN p 3 2 != 0 with
       | true =>
        rw [c2, cond_true] at h
        rw [cond_true]
        cases c3 : decide (tkN p 3 2 < 3) with
        | true => rw [c3] at h; exact h
        | false => rw [c3] at h; exact (e false).symm.trans h
       | false =>
        rw [c2, cond_false] at h
        exact (e false).symm.trans h
 · cases h)
end Go.Proofs.YtnlmhpancboddaaGreat
/- Messages: attributes are read out of a part of a list; the body of an UPDATE. -/
namespace Go.Proofs.YtnlmhpancboddaaGreat
open Go.Am
set_option maxRecDepth 100000
theorem rdK_told {o : Int × Int × List (Int × Bool) × Dz} {n : Nat} {H : HpL} {v' : SV} {ups' : List (Nat × Option Chunk)} (h : crun (.ret (rdV (rdO lookB o n)) []) = some (v', ups')) : ∃ v ups, crun (rdK o n) = some (v, ups) ∧ Am.Told Tryz.prog H v ups v' ups' := by
 have same : ∀ {x : Nat} {c' : Chunk}, updF [] (HpL.get H) x = some c' → ∃ c, updF [] (HpL.get H) x = some c ∧ CoC Tryz.prog x c c' := fun hx => ⟨_, hx, .rfl'⟩
 unfold rdK
 unfold rdO at h
 cases h0 : o.1 == 0 with
 | true =>
  rw [h0, cond_true] at h
  rw [cond_true]
  cases h14 : lookB o.2.2.1 14 with
  | true =>
   rw [h14, cond_true] at h
   rw [cond_true, Bool.not_true, cond_false]
   cases h12 : (bif lookB o.2.2.1 1 then lookB o.2.2.1 2 else false) with
   | true =>
    rw [h12] at h; cases h
    exact ⟨_, _, rfl, .rfl', fun x c' hx => same hx⟩
   | false =>
    rw [h12] at h; cases h
    exact ⟨_, _, rfl, .tup (.cons co_aI (.cons .nils (.cons .nils .rfl'))), fun x c' hx => same hx⟩
  | false =>
   rw [h14] at h
   cases h
   exact ⟨_, _, rfl, .tup (.cons co_aI (.cons .nils .rfl')), fun x c' hx => same hx⟩
 | false =>
  rw [h0] at h
  rw [cond_false, cond_false, show (o.1 != 0) = true by unfold bne; rw [h0]; rfl]
  cases h
  exact ⟨_, _, rfl, .tup (.cons co_aI (.cons .nils (.cons .nils .rfl'))), fun x c' hx => same hx⟩
theorem rdl_t (l n : Nat) (es : List SV) : rd_b [.qs 0 1 l n] [(0, .seq 5 es)] =
 bif decide (l + n ≤ es.length ∧ n ≤ 1000000) then bif dec (mH 0 0 dI [] (RD 0 n) n (sl es l n) = mH 0 0 dI [] (RD 0 n) n (sl es l n) ∧ byl (sl es l n) ∧ n = (sl es l n).length ∧ n ≤ 1000000) then rdK (attK (sl es l n) n 0 0 [] zI) n else .fail else .fail := by kernel_rfl
noncomputable abbrev κr9p := openT Tryz.prog (tbl [(47, nrp_s)]) 300 5
noncomputable abbrev ιr9p : Nat → Bool := fun g => inl (tbl [(47, nrp_s)]) g && hasBody Tryz.prog g
noncomputable def rdp_b : CSumm := bodyCL Tryz.prog κr9p ιr9p T9 true 300 Tryz.f76 m9
theorem rdp_k0 : Known Tryz.prog 76 rdp_b := ⟨⟨Tryz.f76, Tryz.func76, noNum_at noNumTry Tryz.func76, rfl⟩, bodyL_valid (openT_ok noNumTry mixTry (tbl_cons nrp_k ok0) 300 5) mixTry (ltab_cons mi_valid ltab_nil) Tryz.func76 (show Tryz.f76.body = some (fillC T9 m9) by kernel_rfl)⟩
theorem rdp_t (es : List SV) : rdp_b [.psl 5 es] [] =
 bif decide (es.length ≤ 1000000) then bif dec (mH 0 0 dI [] (RD 0 es.length) es.length es = mH 0 0 dI [] (RD 0 es.length) es.length es ∧ byl es ∧ es.length = es.length ∧ es.length ≤ 1000000) then rdK (attK es es.length 0 0 [] zI) es.length else .fail else .fail := by kernel_rfl
noncomputable def areadl_s : CSumm := fun args H => match args, H with
 | [.qs 0 1 l n], [(0, .seq 5 es)] => .ite (dec (byl es ∧ l + n ≤ es.length ∧ es.length ≤ 1000000)) (.ret (rdV (rdQ (sl es l n) n)) []) .fail
 | _, _ => .fail
theorem areadl_k : Known Tryz.prog 76 areadl_s := known_told rd_k0 (by
 intro args H v' ups' h
 unfold areadl_s at h
 split at h
 · rename_i l n es
   rw [crun_ite] at h
   cases hc : dec (byl es ∧ l + n ≤ es.length ∧ es.length ≤ 1000000) with
   | false => rw [hc] at h; cases h
   | true =>
    rw [hc, cond_true] at h
    obtain ⟨h1, h2, h3⟩ := dec_iff.1 hc
    have ht := rdl_t l n es
    rw [decide_eq_true (show l + n ≤ es.length ∧ n ≤ 1000000 by omega), cond_true, dec_iff.2 ⟨rfl, h1.sl _ _, (sl_len h2).symm, by omega⟩, cond_true] at ht
    obtain ⟨v, ups, e1, e2⟩ := rdK_told (H := [(0, .seq 5 es)]) h
    exact ⟨v, ups, (congrArg crun ht).trans e1, .inr e2⟩
 · cases h)
noncomputable def areadp_s : CSumm := fun args H => match args, H with
 | [.psl 5 es], [] => .ite (dec (byl es ∧ es.length ≤ 1000000)) (.ret (rdV (rdQ es es.length)) []) .fail
 | _, _ => .fail
theorem areadp_k : Known Tryz.prog 76 areadp_s := known_told rdp_k0 (by
 intro args H v' ups' h
 unfold areadp_s at h
 split at h
 · rename_i es
   rw [crun_ite] at h
   cases hc : dec (byl es ∧ es.length ≤ 1000000) with
   | false => rw [hc] at h; cases h
   | true =>
    rw [hc, cond_true] at h
    obtain ⟨h1, h3⟩ := dec_iff.1 hc
    have ht := rdp_t es
    rw [decide_eq_true h3, cond_true, dec_iff.2 ⟨rfl, h1, rfl, h3⟩, cond_true] at ht
    obtain ⟨v, ups, e1, e2⟩ := rdK_told (H := []) h
    exact ⟨v, ups, (congrArg crun ht).trans e1, .inr e2⟩
 · cases h)
/- Messages. -/
structure Mg where
 (k : Int) (s : Cs) (code sub : Int) (d : Ds)
def mg0 : Mg := ⟨0, cs0, 0, 0, dI0⟩
def atL (d : Ds) : List SV := [.int .i64 d.ori, .psl 36 d.path, .int .u32 d.nx, .bool d.hm, .int .u32 d.med, .bool d.hp, .int .u32 d.prf, .bool d.ho, .int .u32 d.orr, .psl 37 d.cl, .psl 136 d.cm, .int .i64 d.tk, .int .u32 d.tl, .int .u32 d.tr, .int .u32 d.tg]
def mgV (m : Mg) : SV := .agg (.int .i64 m.k :: oV m.s ++ (.int .i64 m.code :: .int .i64 m.sub :: atL m.d) ++ [.psl 88 m.d.rch, .psl 88 m.d.unr])
def atZ : List SV := [.int .i64 0, .nils, .int .u32 0, .bool false, .int .u32 0, .bool false, .int .u32 0, .bool false, .int .u32 0, .nils, .nils, .int .i64 0, .int .u32 0, .int .u32 0, .int .u32 0]
def mgZ (k : Int) (s : Cs) (code sub : Int) : SV := .agg (.int .i64 k :: oV s ++ (.int .i64 code :: .int .i64 sub :: atZ) ++ [.nils, .nils])
def mgR (m : SV) (e : Int) : CTree := .ret (.tup [m, .int .i64 e]) []
end Go.Proofs.YtnlmhpancboddaaGreat
/- Messages are the same. -/
namespace Go.Proofs.YtnlmhpancboddaaGreat
open Go.Am
set_option maxRecDepth 100000
def ci (x : SV) (j : Nat) : Int := asI (cellAt x j)
def cb (x : SV) (j : Nat) : Bool := asB (cellAt x j)
def cl (x : SV) (j : Nat) : List SV := asL (cellAt x j)
noncomputable def body11 : Code := Tryz.f11.body.getD .skip
noncomputable def c11 : Code := (loopAt 4 body11).getD .skip
end Go.Proofs.YtnlmhpancboddaaGreat
/- Lists of messages are the same. -/
namespace Go.Proofs.YtnlmhpancboddaaGreat
open Go.Am
set_option maxRecDepth 100000
end Go.Proofs.YtnlmhpancboddaaGreat
/- The laws about messages: what they share. -/
namespace Go.Proofs.YtnlmhpancboddaaGreat
open Go.Am
set_option maxRecDepth 100000
def lives_s : CSumm := fun args H => match args, H with
 | [], [] => .ret (.bool true) []
 | _, _ => .fail
theorem lives_t : bodyC Tryz.prog (openT Tryz.prog (tbl []) 300 8) (fun g => inl (tbl []) g && hasBody Tryz.prog g) true 300 Tryz.f7 [] [] = .ret (.bool true) [] := by kernel_rfl
theorem lives_k : Known Tryz.prog 7 lives_s := known_of_bodyC noNumTry mixTry (openT_ok noNumTry mixTry ok0 300 8) Tryz.func7 rfl (by
 intro args H v ups h
 unfold lives_s at h
 split at h
 · exact (congrArg crun lives_t).trans h
 · cases h)
theorem Tryz.own : ownKnob Tryz.prog.godebug = none := by kernel_rfl
theorem laidTryz : laidOutB Tryz.prog = true := by kernel_rfl
theorem mapsTryz : mapsRowed Tryz.prog = true := by kernel_rfl
theorem fullTryz : ((List.range Tryz.prog.types.size).all fun t => match Tryz.prog.underlying t with | some (.slice e) => decide (0 < Tryz.prog.cellsOf e) | _ => true) = true := by kernel_rfl
theorem byl_of {l : List SV} (h : ∀ x ∈ l, OkV Tryz.prog 5 x) : byl l := by
 intro x hx
 obtain ⟨n, rfl, hw⟩ := (h x hx).int_inv Tryz.underlying5
 refine ⟨n, rfl, ?_⟩
 simp [Lit.wf, IntKind.min, IntKind.max, IntKind.signed, IntKind.bits] at hw
 omega
end Go.Proofs.YtnlmhpancboddaaGreat
/- MsgOpens: what an OPEN is encoded as: its capabilities. -/
namespace Go.Proofs.YtnlmhpancboddaaGreat
open Go.Am
set_option maxRecDepth 100000
abbrev wu64 (n : Int) : Int := IntKind.u64.wrap n
def oWA (n : Int) (k : Nat) (lim : Int) (K : Nat → List SV → CTree) : CTree := bif decide (0 ≤ n ∧ n < 256 ^ k ∧ (k : Int) ≤ lim ∧ lim ≤ 65536) then K k (be n k) else .fail
def oWB (m : Nat) (es : List SV) (n : Int) (k : Nat) (lim : Int) (K : Nat → List SV → CTree) : CTree := bif decide (m = es.length ∧ 0 ≤ n ∧ n < 256 ^ k ∧ ((es.length + k : Nat) : Int) ≤ lim ∧ lim ≤ 65536) then K (es.length + k) (es ++ be n k) else .fail
def oWO (m : Nat) (es : List SV) (K : Nat → List SV → CTree) : CTree := bif decide (m = es.length ∧ es.length ≤ 65536) then K es.length es else .fail
noncomputable abbrev κcw := tbl [(26, wr_s 2), (41, wr_s 4), (27, wr_s 1), (24, bytes_s), (28, out_s)]
theorem cwOk : KOk Tryz.prog κcw := tbl_cons u16_k (tbl_cons u32_k (tbl_cons u8_k (tbl_cons bytes_k (tbl_cons out_k ok0))))
def orI (k : IntKind) (a b : Int) : Int := k.wrap (BitVec.ofInt k.bits a ||| BitVec.ofInt k.bits b).toNat
def rsN (s : Cs) : Int := bif s.rsd then orI .u64 (wu64 s.rst) 32768 else wu64 s.rst
def capZ (s : Cs) (m : Nat) (es : List SV) : CTree := oWB m es 16644 2 255 fun m es => oWB m es (wu64 s.asn) 4 255 fun m es => oWO m es fun n xs => .ret (.qs 0 1 0 n) [(0, some (.seq 5 xs))]
def capR (s : Cs) (n : Int) (m : Nat) (es : List SV) : CTree := oWB m es 16390 2 255 fun m es => oWB m es n 2 255 fun m es => oWB m es 1656448 4 255 fun m es => capZ s m es
theorem caps_t (s : Cs) : opn κcw Tryz.f40 [.agg (oV s)] [] =
 oWA 260 2 255 fun m es => oWB m es 1638470 4 255 fun m es => oWB m es 512 2 255 fun m es =>
  bif (bif s.rst != 0 then true else s.rsd) then (bif s.rsd then capR s (orI .u64 (wu64 s.rst) 32768) m es else capR s (wu64 s.rst) m es) else capZ s m es := by kernel_rfl
end Go.Proofs.YtnlmhpancboddaaGreat
/- MsgOpens: what an OPEN is encoded as: its body. -/
namespace Go.Proofs.YtnlmhpancboddaaGreat
open Go.Am
set_option maxRecDepth 100000
theorem or15 : ((List.range 4096).all fun n => orI .u64 (n : Nat) 32768 == (n : Int) + 32768) = true := by kernel_rfl
theorem wu64_id {n : Int} (h0 : 0 ≤ n) (h1 : n < 18446744073709551616) : wu64 n = n := by
 show IntKind.u64.wrap n = n
 simp [IntKind.wrap, IntKind.bits, IntKind.signed]
 omega
theorem rsN_v {s : Cs} (h0 : 0 ≤ s.rst) (h1 : s.rst < 4096) : rsN s = s.rst + (bif s.rsd then 32768 else 0) := by
 unfold rsN
 rw [wu64_id h0 (by omega)]
 cases s.rsd with
 | false => simp
 | true =>
  have := List.all_eq_true.1 or15 s.rst.toNat (List.mem_range.2 (by omega))
  rw [beq_iff_eq, show ((s.rst.toNat : Nat) : Int) = s.rst by omega] at this
  exact this
def capL (s : Cs) : List SV := (bif (bif s.rst != 0 then true else s.rsd) then be 260 2 ++ be 1638470 4 ++ be 512 2 ++ be 16390 2 ++ be (rsN s) 2 ++ be 1656448 4 else be 260 2 ++ be 1638470 4 ++ be 512 2) ++ be 16644 2 ++ be s.asn 4
theorem capL_len (s : Cs) : (capL s).length = bif (bif s.rst != 0 then true else s.rsd) then 22 else 14 := by
 unfold capL
 cases (bif s.rst != 0 then true else s.rsd) <;> simp [be_len]
def caps_s : CSumm := fun args H => match args, H with
 | [.agg [.int .u32 asn, .int .i64 hold, .int .u32 id, .int .i64 rst, .bool rsd]], [] => .ite (decide (0 ≤ asn ∧ asn < 4294967296 ∧ 0 ≤ rst ∧ rst < 4096)) (.ret (.qs 0 1 0 (capL ⟨false, false, false, asn, hold, id, rst, rsd⟩).length) [(0, some (.seq 5 (capL ⟨false, false, false, asn, hold, id, rst, rsd⟩)))]) .fail
 | _, _ => .fail
theorem oWA_ok {n lim : Int} {k : Nat} (h0 : 0 ≤ n) (h1 : n < 256 ^ k) (h2 : (k : Int) ≤ lim) (h3 : lim ≤ 65536) (K : Nat → List SV → CTree) : oWA n k lim K = K (be n k).length (be n k) := by
 unfold oWA; rw [decide_eq_true ⟨h0, h1, h2, h3⟩, cond_true, be_len]
theorem oWB_ok {es : List SV} {n lim : Int} {k : Nat} (h0 : 0 ≤ n) (h1 : n < 256 ^ k) (h2 : ((es.length + k : Nat) : Int) ≤ lim) (h3 : lim ≤ 65536) (K : Nat → List SV → CTree) : oWB es.length es n k lim K = K (es ++ be n k).length (es ++ be n k) := by
 unfold oWB; rw [decide_eq_true ⟨rfl, h0, h1, h2, h3⟩, cond_true, List.length_append, be_len]
theorem oWO_ok {es : List SV} (h : es.length ≤ 65536) (K : Nat → List SV → CTree) : oWO es.length es K = K es.length es := by
 unfold oWO; rw [decide_eq_true ⟨rfl, h⟩, cond_true]
theorem caps_k : Known Tryz.prog 40 caps_s := (openKnown cwOk Tryz.func40 rfl).weak (by
 intro args H v ups h
 unfold caps_s at h
 split at h
 · rename_i asn hold id rst rsd
   rw [crun_ite, cond_eq_ite] at h
   split at h
   · rename_i hc
     obtain ⟨h0, h1, h2, h3⟩ := of_decide_eq_true hc
     have ht := caps_t ⟨false, false, false, asn, hold, id, rst, rsd⟩
     have hn := rsN_v (s := ⟨false, false, false, asn, hold, id, rst, rsd⟩) h2 h3
     refine (congrArg crun ht).trans ?_
     rw [← h]
     have hz : ∀ es : List SV, es.length ≤ 100 → capZ ⟨false, false, false, asn, hold, id, rst, rsd⟩ es.length es = .ret (.qs 0 1 0 (es ++ be 16644 2 ++ be asn 4).length) [(0, some (.seq 5 (es ++ be 16644 2 ++ be asn 4)))] := fun es he => by
      have hw : wu64 asn = asn := wu64_id h0 (by omega)
      unfold capZ
      simp only []
      rw [hw, oWB_ok (by decide) (by decide) (by omega) (by decide), oWB_ok h0 (by omega) (by rw [List.length_append, be_len]; omega) (by decide), oWO_ok (by simp only [List.length_append, be_len]; omega)]
     have hr : ∀ n es, 0 ≤ n → n < 65536 → es.length ≤ 50 → capR ⟨false, false, false, asn, hold, id, rst, rsd⟩ n es.length es = .ret (.qs 0 1 0 (es ++ be 16390 2 ++ be n 2 ++ be 1656448 4 ++ be 16644 2 ++ be asn 4).length) [(0, some (.seq 5 (es ++ be 16390 2 ++ be n 2 ++ be 1656448 4 ++ be 16644 2 ++ be asn 4)))] := fun n es n0 n1 he => by
      unfold capR
      rw [oWB_ok (by decide) (by decide) (by omega) (by decide), oWB_ok n0 (by omega) (by rw [List.length_append, be_len]; omega) (by decide), oWB_ok (by decide) (by decide) (by simp only [List.length_append, be_len]; omega) (by decide), hz _ (by simp only [List.length_append, be_len]; omega)]
     rw [oWA_ok (by decide) (by decide) (by decide) (by decide), oWB_ok (by decide) (by decide) (by rw [be_len]; decide) (by decide), oWB_ok (by decide) (by decide) (by simp only [List.length_append, be_len]; decide) (by decide)]
     unfold capL
     simp only []
     cases (bif rst != 0 then true else rsd) with
     | false => rw [cond_false, cond_false, hz _ (by simp only [List.length_append, be_len]; omega)]
     | true =>
      rw [cond_true, cond_true]
      simp only [rsN] at hn ⊢
      cases rsd with
      | true =>
       simp only [cond_true] at hn ⊢
       rw [hr _ _ (by omega) (by omega) (by simp only [List.length_append, be_len]; omega)]
      | false =>
       simp only [cond_false] at hn ⊢
       rw [hr _ _ (by omega) (by omega) (by simp only [List.length_append, be_len]; omega)]
   · cases h
 · cases h)
/- The body. -/
noncomputable abbrev κen := tbl [(40, caps_s), (26, wr_s 2), (41, wr_s 4), (27, wr_s 1), (24, bytes_s), (28, out_s)]
theorem enOk2 : KOk Tryz.prog κen := tbl_cons caps_k cwOk
def capC (s : Cs) (K : Nat → List SV → CTree) : CTree := bif decide (0 ≤ s.asn ∧ s.asn < 4294967296 ∧ 0 ≤ s.rst ∧ s.rst < 4096) then K (capL s).length (capL s) else .fail
def oWP (m : Nat) (es : List SV) (k : Nat) (xs : List SV) (K : Nat → List SV → CTree) : CTree := bif decide (k = xs.length) then bif decide (m = es.length ∧ ((es.length + xs.length : Nat) : Int) ≤ 4096 ∧ (4096 : Int) ≤ 65536) then K (es.length + xs.length) (es ++ xs) else .fail else .fail
def encE (s : Cs) (a : Int) (n : Nat) (xs : List SV) : CTree :=
 oWA 4 1 4096 fun m es => oWB m es (wu64 a) 2 4096 fun m es => oWB m es (wu64 s.hold) 2 4096 fun m es => oWB m es (wu64 s.id) 4 4096 fun m es => oWB m es (wu64 (w64 ((n : Int) + 2))) 1 4096 fun m es => oWB m es 2 1 4096 fun m es => oWB m es (wu64 n) 1 4096 fun m es =>
 oWP m es n xs fun m es => oWO m es fun m es => .ret (.qs 0 1 0 m) [(0, some (.seq 5 es))]
theorem enc_t (s : Cs) : opn κen Tryz.f22 [.iface 101 (.agg (oV s))] [] = capC s fun n xs => bif decide (s.asn > 65535) then encE s 23456 n xs else encE s s.asn n xs := by kernel_rfl
end Go.Proofs.YtnlmhpancboddaaGreat
