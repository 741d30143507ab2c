/- New writers; an attribute is put. -/
import Derived.Test.YtdgnhaacdpmclaaGreatPart17
set_option linter.unusedVariables false
set_option linter.unusedSimpArgs false
namespace Go.Proofs.YtdgnhaacdpmclaaGreat
open Go.Am
set_option maxRecDepth 100000
theorem nw_t : opn (tbl []) Tryz.f34 [.int .i64 65535] [] = .ret (.tup [.ptr 0 0, .int .i64 0]) [(0, some (.cells 133 [.nils, .int .i64 65535, .mp 1])), (1, some (.mpc [] []))] := by kernel_rfl
def nwU : List (Nat × Option Chunk) := [(0, some (.cells 133 [.qs 2 1 0 0, .int .i64 65535, .mp 1])), (1, some (.mpc [] [])), (2, some (.seq 5 []))]
def nw_s : CSumm := fun args H => match args, H with
 | [.int .i64 65535], [] => .ret (.tup [.ptr 0 0, .int .i64 0]) nwU
 | _, _ => .fail
theorem nw_k : Known Tryz.prog 34 nw_s := by
 have h := openKnown (f := 34) (fn := Tryz.f34) ok0 Tryz.func34 rfl
 refine ⟨h.fn, ?_⟩
 intro args H v ups hr hc ω θ Im w us hl hH hfr
 unfold nw_s at hr
 split at hr
 · cases hr
   refine (h.ok _ _ _ _ (congrArg crun nw_t) hc ω θ Im w us hl hH hfr).mono ?_
   rintro o w' ⟨u, θ', Im', rfl, hE, hv, hH'⟩
   let θ2 : Th := fun x => if x = 2 then none else θ' x
   have t2 : ∀ x, x ≠ 2 → θ2 x = θ' x := fun x hx => if_neg hx
   have hno : ∀ x, θ x = none := fun x => hfr x (Nat.zero_le x)
   have h0 := hH'.at_ 0 _ rfl
   have h1 := hH'.at_ 1 _ rfl
   have src : ∀ y c, updF nwU (HpL.get []) y = some c → (y = 0 ∧ c = .cells 133 [.qs 2 1 0 0, .int .i64 65535, .mp 1]) ∨ (y = 1 ∧ c = .mpc [] []) ∨ (y = 2 ∧ c = .seq 5 []) := by
    intro y c hy
    simp only [nwU, updF] at hy
    split at hy
    · rename_i e; cases hy; exact .inr (.inr ⟨e, rfl⟩)
    · split at hy
      · rename_i e; cases hy; exact .inr (.inl ⟨e, rfl⟩)
      · split at hy
        · rename_i e; cases hy; exact .inl ⟨e, rfl⟩
        · simp [HpL.get] at hy
   have old : ∀ y c b N, updF nwU (HpL.get []) y = some c → θ2 y = some (b, N) → ∃ c', updF [(0, some (.cells 133 [.nils, .int .i64 65535, .mp 1])), (1, some (.mpc [] []))] (HpL.get []) y = some c' ∧ θ' y = some (b, N) := by
    intro y c b N hy ht
    rcases src y c hy with ⟨rfl, _⟩ | ⟨rfl, _⟩ | ⟨rfl, _⟩
    · exact ⟨_, rfl, ht⟩
    · exact ⟨_, rfl, ht⟩
    · cases ht
   refine ⟨u, θ2, Im', rfl, ?_, ?_, ?_⟩
   · refine { thOld := fun x hx => absurd (Nat.zero_le x) hx, thUp := fun x p hp => (by rw [hno x] at hp; cases hp), imUp := hE.imUp, size := hE.size, keep := hE.keep, os := hE.os, output := hE.output, tape := hE.tape, imNew := hE.imNew, ownNew := fun y c b N hy hx => ?_ }
     obtain ⟨c', h3, h4⟩ := old y c b N hy hx
     exact hE.ownNew y c' b N h3 h4
   · exact hv.ren id (fun x hx p hp => by
       have : x = 0 := by simpa [namesS, namesL] using hx
       subst this; exact hp)
   · refine ⟨fun y c hy => ?_, fun y y' c c' b N N' hy hy' hx hx' => ?_, fun y c b N hy hx => ?_, hH'.im⟩
     · rcases src y c hy with ⟨rfl, rfl⟩ | ⟨rfl, rfl⟩ | ⟨rfl, rfl⟩
       · obtain ⟨b, cs, fr, a1, a2, a3, a4⟩ := h0
         refine ⟨b, cs, fr, a1, a2, a3, a4.len, fun i v u hi hu => ?_⟩
         match i, hi with
         | 0, hi =>
          simp at hi; subst hi
          have := a4.at_ 0 .nils u rfl hu
          cases this; exact .qsnil rfl
         | 1, hi => simp at hi; subst hi; exact (a4.at_ 1 _ u rfl hu).ren id (fun x hx => by cases hx)
         | 2, hi => simp at hi; subst hi; exact (a4.at_ 2 _ u rfl hu).ren id (fun x hx p hp => by
           have : x = 1 := by simpa [namesS] using hx
           subst this; exact hp)
       · exact h1.ren id (fun x hx => by cases hx) rfl
       · exact .inl ⟨rfl, rfl⟩
     · obtain ⟨c1, h3, h4⟩ := old y c b N hy hx
       obtain ⟨c2, h5, h6⟩ := old y' c' b N' hy' hx'
       exact hH'.inj y y' c1 c2 b N N' h3 h5 h4 h6
     · obtain ⟨c1, h3, h4⟩ := old y c b N hy hx
       exact hH'.own y c1 b N h3 h4
 · cases hr
noncomputable abbrev κpW := tbl [(34, nw_s), (41, row_s 0), (42, row_s 1), (43, row_s 2), (44, row_s 3), (45, row_s 4), (46, row_s 5), (47, row_s 6), (48, row_s 7), (49, row_s 8), (50, row_s 9), (82, wr_s 1), (83, wr_s 2), (84, bytes_s), (36, out_s)]
theorem pOkW : KOk Tryz.prog κpW := tbl_cons nw_k (tbl_cons row0_k (tbl_cons row1_k (tbl_cons row2_k (tbl_cons row3_k (tbl_cons row4_k (tbl_cons row5_k (tbl_cons row6_k (tbl_cons row7_k (tbl_cons row8_k (tbl_cons row9_k (tbl_cons u8_k (tbl_cons u16_k (tbl_cons bytes_k (tbl_cons out_k ok0))))))))))))))
def pArgs (c f : Int) (g : Nat) : List SV := [.ptr 0 0, .ptr 3 0, .agg [.int .u8 c, .int .u8 f, .fn (.func g) [] []]]
def putF (mm : Nat) (h xs : List SV) : CTree := bif decide (xs.length = xs.length) then bif decide (mm = h.length ∧ ((h.length + xs.length : Nat) : Int) ≤ 65535 ∧ (65535 : Int) ≤ 65536) then .ret (.int .i64 0) [(3, some (.cells 133 [.qs 6 1 0 (h.length + xs.length), .int .i64 65535, .mp 5])), (4, none), (6, some (.seq 5 (h ++ xs)))] else .fail else .fail
def putTr (f c : Int) (xs : List SV) (w : Bool) (m : Nat) (es : List SV) : CTree :=
 bif bif (0 : Int) != 0 then true else !w then .ret (.int .i64 0) [] else
 bif decide (xs.length = xs.length ∧ xs.length ≤ 65536) then
  bif decide ((xs.length : Int) > 255) then Wc 1 (w6 (orF f)) m es (Wc 1 (w6 c) (es.length + 1) (es ++ be (w6 (orF f)) 1) (Wc 2 (w6 xs.length) ((es ++ be (w6 (orF f)) 1).length + 1) (es ++ be (w6 (orF f)) 1 ++ be (w6 c) 1)
   (putF ((es ++ be (w6 (orF f)) 1 ++ be (w6 c) 1).length + 2) (es ++ be (w6 (orF f)) 1 ++ be (w6 c) 1 ++ be (w6 xs.length) 2) xs)))
  else Wc 1 (w6 f) m es (Wc 1 (w6 c) (es.length + 1) (es ++ be (w6 f) 1) (Wc 1 (w6 xs.length) ((es ++ be (w6 f) 1).length + 1) (es ++ be (w6 f) 1 ++ be (w6 c) 1)
   (putF ((es ++ be (w6 f) 1 ++ be (w6 c) 1).length + 1) (es ++ be (w6 f) 1 ++ be (w6 c) 1 ++ be (w6 xs.length) 1) xs)))
 else .fail
def codeR : Nat → Int
 | 0 => 1 | 1 => 2 | 2 => 4 | 3 => 5 | 4 => 9 | 5 => 10 | 6 => 14 | 7 => 15 | 8 => 16 | _ => 22
def flagR : Nat → Int
 | 0 => 64 | 1 => 64 | 2 => 128 | 3 => 64 | 4 => 128 | 5 => 128 | 6 => 128 | 7 => 128 | 8 => 192 | _ => 192
theorem put_t0 (a : At) (R U : List SV) (kr ku m : Nat) (es : List SV) : opn κpW Tryz.f35 (pArgs 1 64 41) (dH a R U kr ku m es) = bif dec (OkD ⟨a, R, U, kr, ku, 0, []⟩ ∧ (0 : Nat) = 0 ∧ ([] : List SV) = []) then putTr 64 1 (valB 0 a R U) (wrB 0 a R U) m es else .fail := by kernel_rfl
theorem put_t1 (a : At) (R U : List SV) (kr ku m : Nat) (es : List SV) : opn κpW Tryz.f35 (pArgs 2 64 42) (dH a R U kr ku m es) = bif dec (OkD ⟨a, R, U, kr, ku, 0, []⟩ ∧ (0 : Nat) = 0 ∧ ([] : List SV) = []) then putTr 64 2 (valB 1 a R U) (wrB 1 a R U) m es else .fail := by kernel_rfl
theorem put_t2 (a : At) (R U : List SV) (kr ku m : Nat) (es : List SV) : opn κpW Tryz.f35 (pArgs 4 128 43) (dH a R U kr ku m es) = bif dec (OkD ⟨a, R, U, kr, ku, 0, []⟩ ∧ (0 : Nat) = 0 ∧ ([] : List SV) = []) then putTr 128 4 (valB 2 a R U) (wrB 2 a R U) m es else .fail := by kernel_rfl
theorem put_t3 (a : At) (R U : List SV) (kr ku m : Nat) (es : List SV) : opn κpW Tryz.f35 (pArgs 5 64 44) (dH a R U kr ku m es) = bif dec (OkD ⟨a, R, U, kr, ku, 0, []⟩ ∧ (0 : Nat) = 0 ∧ ([] : List SV) = []) then putTr 64 5 (valB 3 a R U) (wrB 3 a R U) m es else .fail := by kernel_rfl
theorem put_t4 (a : At) (R U : List SV) (kr ku m : Nat) (es : List SV) : opn κpW Tryz.f35 (pArgs 9 128 45) (dH a R U kr ku m es) = bif dec (OkD ⟨a, R, U, kr, ku, 0, []⟩ ∧ (0 : Nat) = 0 ∧ ([] : List SV) = []) then putTr 128 9 (valB 4 a R U) (wrB 4 a R U) m es else .fail := by kernel_rfl
theorem put_t5 (a : At) (R U : List SV) (kr ku m : Nat) (es : List SV) : opn κpW Tryz.f35 (pArgs 10 128 46) (dH a R U kr ku m es) = bif dec (OkD ⟨a, R, U, kr, ku, 0, []⟩ ∧ (0 : Nat) = 0 ∧ ([] : List SV) = []) then putTr 128 10 (valB 5 a R U) (wrB 5 a R U) m es else .fail := by kernel_rfl
theorem put_t6 (a : At) (R U : List SV) (kr ku m : Nat) (es : List SV) : opn κpW Tryz.f35 (pArgs 14 128 47) (dH a R U kr ku m es) = bif dec (OkD ⟨a, R, U, kr, ku, 0, []⟩ ∧ (0 : Nat) = 0 ∧ ([] : List SV) = []) then putTr 128 14 (valB 6 a R U) (wrB 6 a R U) m es else .fail := by kernel_rfl
theorem put_t7 (a : At) (R U : List SV) (kr ku m : Nat) (es : List SV) : opn κpW Tryz.f35 (pArgs 15 128 48) (dH a R U kr ku m es) = bif dec (OkD ⟨a, R, U, kr, ku, 0, []⟩ ∧ (0 : Nat) = 0 ∧ ([] : List SV) = []) then putTr 128 15 (valB 7 a R U) (wrB 7 a R U) m es else .fail := by kernel_rfl
theorem put_t8 (a : At) (R U : List SV) (kr ku m : Nat) (es : List SV) : opn κpW Tryz.f35 (pArgs 16 192 49) (dH a R U kr ku m es) = bif dec (OkD ⟨a, R, U, kr, ku, 0, []⟩ ∧ (0 : Nat) = 0 ∧ ([] : List SV) = []) then putTr 192 16 (valB 8 a R U) (wrB 8 a R U) m es else .fail := by kernel_rfl
theorem put_t9 (a : At) (R U : List SV) (kr ku m : Nat) (es : List SV) : opn κpW Tryz.f35 (pArgs 22 192 50) (dH a R U kr ku m es) = bif dec (OkD ⟨a, R, U, kr, ku, 0, []⟩ ∧ (0 : Nat) = 0 ∧ ([] : List SV) = []) then putTr 192 22 (valB 9 a R U) (wrB 9 a R U) m es else .fail := by kernel_rfl
end Go.Proofs.YtdgnhaacdpmclaaGreat
/- An attribute is put: one leaf. -/
namespace Go.Proofs.YtdgnhaacdpmclaaGreat
open Go.Am
set_option maxRecDepth 100000
def putB (r : Nat) (a : At) (R U : List SV) : List SV := bif wrB r a R U then atB (flagR r) (codeR r) (valB r a R U) else []
def putLeaf (es xs : List SV) : CTree := .ret (.int .i64 0) [(3, some (.cells 133 [.qs 6 1 0 (es ++ xs).length, .int .i64 65535, .mp 5])), (4, none), (6, some (.seq 5 (es ++ xs)))]
noncomputable def put20_s : CSumm := fun args H => match args with
 | [.ptr 0 0, .ptr 3 0, .agg [.int .u8 c, .int .u8 f, .fn (.func g) [] []]] => match dOf H with
  | some d => .ite (decide (41 ≤ g ∧ g ≤ 50 ∧ c = codeR (g - 41) ∧ f = flagR (g - 41)) && dec (OkD d ∧ d.m = d.es.length ∧ (d.es ++ putB (g - 41) d.a d.R d.U).length ≤ 60000)) (putLeaf d.es (putB (g - 41) d.a d.R d.U)) .fail
  | none => .fail
 | _ => .fail
theorem attL_short {f c : Int} {v : List SV} (h : v.length ≤ 255) (h1 : 0 ≤ f ∧ f < 256) (h2 : 0 ≤ c ∧ c < 256) : atB f c v = be (w6 f) 1 ++ be (w6 c) 1 ++ be (w6 v.length) 1 ++ v := by
 have e1 : w6 f = f := w6_id h1.1 (by omega)
 have e2 : w6 c = c := w6_id h2.1 (by omega)
 have e3 : w6 v.length = v.length := w6_id (by omega) (by omega)
 unfold atB
 rw [decide_eq_false (by omega), cond_false, e1, e2, e3, hdS, w8_eq]
 simp only [be, List.cons_append, List.nil_append]
 rw [show f / 256 ^ 0 % 256 = f by rw [Int.pow_zero, Int.ediv_one]; omega, show c / 256 ^ 0 % 256 = c by rw [Int.pow_zero, Int.ediv_one]; omega, show (v.length : Int) / 256 ^ 0 % 256 = (v.length : Int) % 256 by rw [Int.pow_zero, Int.ediv_one]]
theorem attL_long {f c : Int} {v : List SV} (h : 255 < v.length) (h1 : 0 ≤ orF f ∧ orF f < 256) (h2 : 0 ≤ c ∧ c < 256) : atB f c v = be (w6 (orF f)) 1 ++ be (w6 c) 1 ++ be (w6 v.length) 2 ++ v := by
 have e1 : w6 (orF f) = orF f := w6_id h1.1 (by omega)
 have e2 : w6 c = c := w6_id h2.1 (by omega)
 unfold atB
 rw [decide_eq_true (by omega), cond_true, e1, e2, hdL]
 simp only [be, List.cons_append, List.nil_append]
 rw [show orF f / 256 ^ 0 % 256 = orF f by rw [Int.pow_zero, Int.ediv_one]; omega, show c / 256 ^ 0 % 256 = c by rw [Int.pow_zero, Int.ediv_one]; omega]
theorem putTr_ok {f c : Int} {xs es : List SV} {w : Bool} (hw : w = true) (hx : (es ++ atB f c xs).length ≤ 60000) (h1 : 0 ≤ f ∧ f < 256) (h2 : 0 ≤ c ∧ c < 256) (h3 : 0 ≤ orF f ∧ orF f < 256) : putTr f c xs w es.length es = putLeaf es (atB f c xs) := by
 subst hw
 have e1 : w6 f = f := w6_id h1.1 (by omega)
 have e2 : w6 c = c := w6_id h2.1 (by omega)
 have e3 : w6 (orF f) = orF f := w6_id h3.1 (by omega)
 have hl : xs.length ≤ (es ++ atB f c xs).length := by
  unfold atB
  cases decide ((xs.length : Int) > 255) <;> simp <;> omega
 have hl2 : es.length + xs.length ≤ 60000 := by
  refine Nat.le_trans ?_ hx
  unfold atB
  cases decide ((xs.length : Int) > 255) <;> simp <;> omega
 have e4 : w6 xs.length = xs.length := w6_id (by omega) (by omega)
 unfold putTr
 rw [decide_eq_true (show xs.length = xs.length ∧ xs.length ≤ 65536 from ⟨rfl, by omega⟩)]
 show (bif decide ((xs.length : Int) > 255) then _ else _) = _
 by_cases hs : 255 < xs.length
 · rw [decide_eq_true (by omega), cond_true, attL_long hs h3 h2, Wc_ok rfl (by rw [e3]; omega) (by rw [e3]; omega) (by omega), Wc_ok (by simp [be_len]) (by rw [e2]; omega) (by rw [e2]; omega) (by simp [be_len]; omega), Wc_ok (by simp [be_len]) (by rw [e4]; omega) (by rw [e4]; omega) (by simp [be_len]; omega)]
   rw [attL_long hs h3 h2] at hx
   simp only [List.length_append, be_len] at hx
   unfold putF
   rw [decide_eq_true rfl, cond_true, decide_eq_true ⟨by simp [be_len], by simp [be_len]; omega, by omega⟩, cond_true, ← List.length_append]
   simp [putLeaf, List.append_assoc]
 · rw [decide_eq_false (by omega), cond_false, attL_short (by omega) h1 h2, Wc_ok rfl (by rw [e1]; omega) (by rw [e1]; omega) (by omega), Wc_ok (by simp [be_len]) (by rw [e2]; omega) (by rw [e2]; omega) (by simp [be_len]; omega), Wc_ok (by simp [be_len]) (by rw [e4]; omega) (by rw [e4]; omega) (by simp [be_len]; omega)]
   rw [attL_short (by omega) h1 h2] at hx
   simp only [List.length_append, be_len] at hx
   unfold putF
   rw [decide_eq_true rfl, cond_true, decide_eq_true ⟨by simp [be_len], by simp [be_len]; omega, by omega⟩, cond_true, ← List.length_append]
   simp [putLeaf, List.append_assoc]
theorem dH_ren2 (a : At) (R U : List SV) (kr ku m : Nat) (es : List SV) : ∀ x, updF [(3, some (.cells 133 [.qs 6 1 0 m, .int .i64 65535, .mp 5])), (4, none), (6, some (.seq 5 es))] (dH a R U kr ku m es).get x =
  if x = 6 then (updF [] (dH a R U kr ku m es).get 4).map (renC (sw 4 6)) else if x = 4 then none else (updF [] (dH a R U kr ku m es).get x).map (renC (sw 4 6))
 | 0 => rfl | 1 => rfl | 2 => rfl | 3 => rfl | 4 => rfl | 5 => rfl | 6 => rfl
 | x + 7 => by
  have h1 : ∀ k, k < 7 → ¬ (x + 7 = k) := fun k hk => by omega
  have h2 : ∀ k, k < 7 → Nat.beq k (x + 7) = false := fun k hk => nb_f (by omega)
  simp only [updF, dH, HpL.get, h1 3 (by omega), h1 4 (by omega), h1 6 (by omega), if_false, h2 0 (by omega), h2 1 (by omega), h2 2 (by omega), h2 3 (by omega), h2 4 (by omega), h2 5 (by omega), cond_false, Option.map_none]
theorem dH_names2 (a : At) (R U : List SV) (kr ku m : Nat) (es : List SV) : ∀ x c, updF [] (dH a R U kr ku m es).get x = some c → 6 ∉ namesC c := by
 intro x c h
 have h : HpL.get (dH a R U kr ku m es) x = some c := h
 have := HpL_get_some _ _ _ h
 simp only [dH, List.mem_cons, Prod.mk.injEq, List.not_mem_nil, or_false] at this
 rcases this with ⟨_, rfl⟩ | ⟨_, rfl⟩ | ⟨_, rfl⟩ | ⟨_, rfl⟩ | ⟨_, rfl⟩ | ⟨_, rfl⟩ <;> simp [namesC, namesL, namesS, dCW]
theorem flagR_ok : ∀ r : Nat, (0 ≤ flagR r ∧ flagR r < 256) ∧ (0 ≤ codeR r ∧ codeR r < 256) ∧ (0 ≤ orF (flagR r) ∧ orF (flagR r) < 256)
 | 0 => by decide | 1 => by decide | 2 => by decide | 3 => by decide | 4 => by decide | 5 => by decide | 6 => by decide | 7 => by decide | 8 => by decide
 | r + 9 => by
  have h1 : flagR (r + 9) = 192 := rfl
  have h2 : codeR (r + 9) = 22 := rfl
  rw [h1, h2]; decide
theorem put_all (a : At) (R U : List SV) (kr ku m : Nat) (es : List SV) : ∀ r : Nat, r ≤ 9 → opn κpW Tryz.f35 (pArgs (codeR r) (flagR r) (41 + r)) (dH a R U kr ku m es) = bif dec (OkD ⟨a, R, U, kr, ku, 0, []⟩ ∧ (0 : Nat) = 0 ∧ ([] : List SV) = []) then putTr (flagR r) (codeR r) (valB r a R U) (wrB r a R U) m es else .fail
 | 0, _ => put_t0 a R U kr ku m es | 1, _ => put_t1 a R U kr ku m es | 2, _ => put_t2 a R U kr ku m es | 3, _ => put_t3 a R U kr ku m es | 4, _ => put_t4 a R U kr ku m es
 | 5, _ => put_t5 a R U kr ku m es | 6, _ => put_t6 a R U kr ku m es | 7, _ => put_t7 a R U kr ku m es | 8, _ => put_t8 a R U kr ku m es | 9, _ => put_t9 a R U kr ku m es
 | r + 10, h => by omega
theorem put20_k : Known Tryz.prog 35 put20_s := known_ren (openKnown pOkW Tryz.func35 rfl) (by
 intro args H v ups h
 unfold put20_s at h
 split at h
 · rename_i c f g
   split at h
   · rename_i d hd
     rw [crun_ite] at h
     cases hc : (decide (41 ≤ g ∧ g ≤ 50 ∧ c = codeR (g - 41) ∧ f = flagR (g - 41)) && dec (OkD d ∧ d.m = d.es.length ∧ (d.es ++ putB (g - 41) d.a d.R d.U).length ≤ 60000)) with
     | false => rw [hc] at h; cases h
     | true =>
      rw [hc, cond_true] at h
      rw [Bool.and_eq_true, decide_eq_true_eq, dec_iff] at hc
      obtain ⟨⟨h1, h2, rfl, rfl⟩, ho, hm, hlen⟩ := hc
      have hr : ∃ r : Nat, g = 41 + r ∧ g - 41 = r ∧ r ≤ 9 := ⟨g - 41, (Nat.add_sub_cancel' h1).symm, rfl, Nat.sub_le_of_le_add h2⟩
      obtain ⟨r, rfl, hr1, hr9⟩ := hr
      rw [hr1] at h hlen ⊢
      rw [dOf_h hd, hm]
      have ht := put_all d.a d.R d.U d.kr d.ku d.es.length d.es r hr9
      have hok : dec (OkD ⟨d.a, d.R, d.U, d.kr, d.ku, 0, []⟩ ∧ (0 : Nat) = 0 ∧ ([] : List SV) = []) = true := dec_iff.2 ⟨⟨ho.a, ho.R, ho.U, ho.kr, ho.ku⟩, rfl, rfl⟩
      rw [hok, cond_true] at ht
      obtain ⟨f1, f2, f3⟩ := flagR_ok r
      cases hw : wrB r d.a d.R d.U with
      | true =>
       left
       have hp : putB r d.a d.R d.U = atB (flagR r) (codeR r) (valB r d.a d.R d.U) := by unfold putB; rw [hw]; rfl
       rw [hp] at h hlen
       rw [putTr_ok hw hlen f1 f2 f3] at ht
       refine ⟨ups, ?_, fun x => rfl⟩
       rw [← h]
       exact congrArg crun ht
      | false =>
       right
       have hp : putB r d.a d.R d.U = [] := by unfold putB; rw [hw]; rfl
       rw [hp] at h hlen
       have ht2 : opn κpW Tryz.f35 (pArgs (codeR r) (flagR r) (41 + r)) (dH d.a d.R d.U d.kr d.ku d.es.length d.es) = .ret (.int .i64 0) [] := by rw [ht, hw]; rfl
       have h' : crun (putLeaf d.es []) = some (v, ups) := h
       unfold putLeaf at h'
       rw [List.append_nil] at h'
       cases h'
       exact ⟨_, [], congrArg crun ht2, 4, 6, by simp [dH], by simp [namesS], dH_names2 _ _ _ _ _ _ _, rfl, dH_ren2 _ _ _ _ _ _ _⟩
   · cases h
 · cases h)
end Go.Proofs.YtdgnhaacdpmclaaGreat
/- attr.Bytes. -/
namespace Go.Proofs.YtdgnhaacdpmclaaGreat
open Go.Am
set_option maxRecDepth 100000
noncomputable abbrev κqW := tbl [(32, checks_s), (33, encs_s), (34, nw_s), (35, put20_s), (36, out_s)]
theorem qOkW : KOk Tryz.prog κqW := tbl_cons checks_k (tbl_cons encs_k (tbl_cons nw_k (tbl_cons put20_k (tbl_cons out_k ok0))))
noncomputable def rowC (r : Nat) (a : At) (R U : List SV) (m : Nat) (es : List SV) (K : Nat → List SV → CTree) : CTree :=
 bif decide (41 ≤ 41 + r ∧ 41 + r ≤ 50 ∧ codeR r = codeR (41 + r - 41) ∧ flagR r = flagR (41 + r - 41)) && dec (OkD ⟨a, R, U, R.length, U.length, m, es⟩ ∧ m = es.length ∧ (es ++ putB (41 + r - 41) a R U).length ≤ 60000) then K (es ++ putB r a R U).length (es ++ putB r a R U) else .fail
noncomputable def rowsC (a : At) (R U : List SV) (K : Nat → List SV → CTree) : CTree :=
 rowC 0 a R U 0 [] fun m es => rowC 1 a R U m es fun m es => rowC 2 a R U m es fun m es => rowC 3 a R U m es fun m es => rowC 4 a R U m es fun m es =>
 rowC 5 a R U m es fun m es => rowC 6 a R U m es fun m es => rowC 7 a R U m es fun m es => rowC 8 a R U m es fun m es => rowC 9 a R U m es K
def outC (m : Nat) (xs : List SV) : CTree := bif decide (m = xs.length ∧ xs.length ≤ 65536) then .ret (.tup [.qs 0 1 0 xs.length, .int .i64 0]) [(0, some (.seq 5 xs))] else .fail
theorem bytes_t (a : At) (r u : List SV) : opn κqW Tryz.f14 [a.v, .psl 49 r, .psl 49 u] [] =
 bif decide (r.length ≤ 1000 ∧ u.length ≤ 1000) then bif chkAll a r u != 0 then .ret (.tup [.nils, .int .i64 (chkAll a r u)]) [] else
 bif okR r then bif okR u then rowsC a (nbs r) (nbs u) outC else .fail else .fail else .fail := by kernel_rfl
end Go.Proofs.YtdgnhaacdpmclaaGreat
/- attr.Bytes, known. -/
namespace Go.Proofs.YtdgnhaacdpmclaaGreat
open Go.Am
set_option maxRecDepth 100000
def allB (a : At) (R U : List SV) : List SV := [] ++ putB 0 a R U ++ putB 1 a R U ++ putB 2 a R U ++ putB 3 a R U ++ putB 4 a R U ++ putB 5 a R U ++ putB 6 a R U ++ putB 7 a R U ++ putB 8 a R U ++ putB 9 a R U
theorem putB_len (r : Nat) (a : At) (R U : List SV) : (putB r a R U).length ≤ (valB r a R U).length + 4 := by
 unfold putB
 cases wrB r a R U with
 | true => exact atB_len _ _ _
 | false => simp
theorem valB_len {a : At} (h : OkA a) (R U : List SV) : ∀ r : Nat, (valB r a R U).length ≤ 802 + R.length + U.length
 | 0 => by show (be _ 1).length ≤ _; rw [be_len]; omega
 | 1 => by
  show (pathB a).length ≤ _
  have := h.pl
  unfold pathB
  cases decide ((a.path.length : Int) > 0) <;> simp [wds_len, be_len]; omega
 | 2 => by show (be _ 4).length ≤ _; rw [be_len]; omega
 | 3 => by show (be _ 4).length ≤ _; rw [be_len]; omega
 | 4 => by show (be _ 4).length ≤ _; rw [be_len]; omega
 | 5 => by show (wds _ _ _).length ≤ _; have := h.cl; rw [wds_len]; omega
 | 6 => by show (reachB a R).length ≤ _; simp [reachB, fam, be_len]; omega
 | 7 => by show (unreachB U).length ≤ _; simp [unreachB, fam, be_len]; omega
 | 8 => by show (cmBs _ _ _).length ≤ _; have := h.cm; rw [cmBs_len]; omega
 | r + 9 => by
  show (tunA a).length ≤ _
  unfold tunA
  cases (a.tk == 3) <;> simp [tunB, tunG, be_len] <;> omega
theorem putB_lt {a : At} (h : OkA a) (R U : List SV) (r : Nat) : (putB r a R U).length ≤ 806 + R.length + U.length := by
 have := putB_len r a R U
 have := valB_len h R U r
 omega
theorem rowC_ok {r : Nat} {a : At} {R U : List SV} {m : Nat} {es : List SV} {K : Nat → List SV → CTree} (h : OkA a) (hR : R.length ≤ 900) (hU : U.length ≤ 900) (hr : r ≤ 9) (hm : m = es.length) (he : es.length ≤ 40000) : rowC r a R U m es K = K (es ++ putB r a R U).length (es ++ putB r a R U) := by
 have hp := putB_lt h R U r
 unfold rowC
 have e : 41 + r - 41 = r := by omega
 rw [decide_eq_true (show 41 ≤ 41 + r ∧ 41 + r ≤ 50 ∧ codeR r = codeR (41 + r - 41) ∧ flagR r = flagR (41 + r - 41) by rw [e]; exact ⟨by omega, by omega, rfl, rfl⟩)]
 rw [dec_iff.2 ⟨(⟨h, by show R.length ≤ 40000; omega, by show U.length ≤ 40000; omega, rfl, rfl⟩ : OkD ⟨a, R, U, R.length, U.length, m, es⟩), hm, by rw [e, List.length_append]; omega⟩]
 rfl
theorem rows_ok {a : At} {R U : List SV} (h : OkA a) (hR : R.length ≤ 900) (hU : U.length ≤ 900) : rowsC a R U outC = .ret (.tup [.qs 0 1 0 (allB a R U).length, .int .i64 0]) [(0, some (.seq 5 (allB a R U)))] := by
 have hp := putB_lt h R U
 have h0 := hp 0; have h1 := hp 1; have h2 := hp 2; have h3 := hp 3; have h4 := hp 4; have h5 := hp 5; have h6 := hp 6; have h7 := hp 7; have h8 := hp 8; have h9 := hp 9
 unfold rowsC
 rw [rowC_ok h hR hU (by omega) (show 0 = ([] : List SV).length from rfl) (by simp)]
 rw [rowC_ok h hR hU (by omega) rfl (by simp only [List.length_append, List.length_nil]; omega)]
 rw [rowC_ok h hR hU (by omega) rfl (by simp only [List.length_append, List.length_nil]; omega)]
 rw [rowC_ok h hR hU (by omega) rfl (by simp only [List.length_append, List.length_nil]; omega)]
 rw [rowC_ok h hR hU (by omega) rfl (by simp only [List.length_append, List.length_nil]; omega)]
 rw [rowC_ok h hR hU (by omega) rfl (by simp only [List.length_append, List.length_nil]; omega)]
 rw [rowC_ok h hR hU (by omega) rfl (by simp only [List.length_append, List.length_nil]; omega)]
 rw [rowC_ok h hR hU (by omega) rfl (by simp only [List.length_append, List.length_nil]; omega)]
 rw [rowC_ok h hR hU (by omega) rfl (by simp only [List.length_append, List.length_nil]; omega)]
 rw [rowC_ok h hR hU (by omega) rfl (by simp only [List.length_append, List.length_nil]; omega)]
 show outC (allB a R U).length (allB a R U) = _
 unfold outC
 rw [decide_eq_true ⟨rfl, by unfold allB; simp only [List.length_append, List.length_nil]; omega⟩]
 rfl
theorem nbs_len (l : List SV) : 2 * l.length ≤ (nbs l).length ∧ (nbs l).length ≤ 42 * l.length := by
 have : ∀ (k : Nat) (i : Int), 2 * k ≤ (nbAll k l i).length ∧ (nbAll k l i).length ≤ 42 * k := by
  intro k
  induction k with
  | zero => intro i; simp [nbAll]
  | succ k ih =>
   intro i
   have h1 := ih (i + 1)
   have h2 := nb_len (rt l i)
   have h3 : 2 ≤ (nb (rt l i)).length := by
    unfold nb
    cases (rt l i).kind == 1 <;> cases (rt l i).kind == 2 <;> cases (rt l i).kind == 3 <;> cases (rt l i).kind == 4 <;> simp [encL]
   rw [nbAll, List.length_append]
   omega
 exact this l.length 0
structure Fit (a : At) (r u : List SV) : Prop where
 rl : r.length ≤ 20
 ul : u.length ≤ 20
 ok : chkAll a r u = 0 → OkA a ∧ okR r = true ∧ okR u = true
noncomputable def bytesG_s : CSumm := fun args H => match args, H with
 | [x, .psl 49 r, .psl 49 u], [] => match atOf x with
  | some a => .ite (dec (Fit a r u)) (.ite (chkAll a r u != 0) (.ret (.tup [.nils, .int .i64 (chkAll a r u)]) []) (.ret (.tup [.qs 0 1 0 (allB a (nbs r) (nbs u)).length, .int .i64 0]) [(0, some (.seq 5 (allB a (nbs r) (nbs u))))])) .fail
  | none => .fail
 | _, _ => .fail
theorem bytesG_case {args : List SV} {H : HpL} {v : SV} {ups : List (Nat × Option Chunk)} (h : crun (bytesG_s args H) = some (v, ups)) :
  ∃ (a : At) (r u : List SV), args = [a.v, .psl 49 r, .psl 49 u] ∧ H = [] ∧ Fit a r u ∧ crun (.ite (chkAll a r u != 0) (.ret (.tup [.nils, .int .i64 (chkAll a r u)]) []) (.ret (.tup [.qs 0 1 0 (allB a (nbs r) (nbs u)).length, .int .i64 0]) [(0, some (.seq 5 (allB a (nbs r) (nbs u))))])) = some (v, ups) := by
 unfold bytesG_s at h
 split at h
 · rename_i x r u
   split at h
   · rename_i a ha
     rw [crun_ite] at h
     cases hc : dec (Fit a r u) with
     | false => rw [hc] at h; cases h
     | true =>
      rw [hc] at h
      exact ⟨a, r, u, by rw [atOf_v ha], rfl, dec_iff.1 hc, h⟩
   · cases h
 · cases h
theorem bytes_k6 : Known Tryz.prog 14 bytesG_s := (openKnown qOkW Tryz.func14 rfl).weak (by
 intro args H v ups h
 obtain ⟨a, r, u, rfl, rfl, hf, h⟩ := bytesG_case h
 have h1 := hf.rl; have h2 := hf.ul
 rw [← h, bytes_t, decide_eq_true (by omega), cond_true, crun_ite, crun_cond]
 cases hk : chkAll a r u != 0 with
 | true => rfl
 | false =>
  have h0 : chkAll a r u = 0 := by simpa using hk
  obtain ⟨o1, o2, o3⟩ := hf.ok h0
  have l1 := nbs_len r
  have l2 := nbs_len u
  rw [cond_false, cond_false, o2, o3, cond_true, cond_true, rows_ok o1 (by omega) (by omega)])
end Go.Proofs.YtdgnhaacdpmclaaGreat
