/- Prefixes. -/
import Derived.Test.YtjjfggahllnafaaDoorPart2
set_option linter.unusedVariables false
set_option linter.unusedSimpArgs false
namespace Go.Proofs.YtjjfggahllnafaaDoor
open Go.Am
set_option maxRecDepth 100000
def vld (l : Int) : Bool := bif decide (l ≥ 0) then decide (l ≤ 32) else false
theorem vld_iff (l : Int) : vld l = true ↔ 0 ≤ l ∧ l ≤ 32 := by
 unfold vld
 cases h : decide (l ≥ 0) <;> simp at h ⊢ <;> omega
def mskI (l : Int) : Int := w32 (4294967295 * 2 ^ min (w64 (32 - l)).toNat IntKind.u32.bits)
def clnI (a b : Int) : Int := andI .u32 a (mskI b)
theorem msk_t (l : Int) : opn (tbl []) Tryd.f23 [.int .i64 l] [] = bif decide (w64 (32 - l) < 0) then .fail else .ret (.int .u32 (mskI l)) [] := by kernel_rfl
noncomputable def msk_s : CSumm := fun args H => match args, H with
 | [.int .i64 l], [] => .ite (vld l) (.ret (.int .u32 (mskI l)) []) .fail
 | _, _ => .fail
theorem msk_k : Known Tryd.prog 23 msk_s := (openKnown ok0 Tryd.func23 rfl).weak (by
 intro args H v ups h
 unfold msk_s at h
 split at h
 · rename_i l
   rw [crun_ite] at h
   cases hv : vld l with
   | false => rw [hv] at h; cases h
   | true =>
    rw [hv, cond_true] at h
    obtain ⟨h0, h1⟩ := (vld_iff l).1 hv
    refine (congrArg crun (msk_t l)).trans ?_
    rw [decide_eq_false (by rw [show w64 (32 - l) = 32 - l from w64_id (by omega) (by omega)]; omega)]
    exact h
 · cases h)
theorem cln_t (ip l : Int) : opn (tbl [(23, msk_s)]) Tryd.f11 [.agg [.int .u32 ip, .int .i64 l]] [] = bif !vld l then .ret (.tup [.agg [.int .u32 0, .int .i64 0], .int .i64 2]) [] else
 bif vld l then .ret (.tup [.agg [.int .u32 (clnI ip l), .int .i64 l], .int .i64 0]) [] else .fail := by kernel_rfl
noncomputable abbrev κit := tbl [(35, sm_s), (36, noS), (38, noS)]
theorem itOk : KOk Tryd.prog κit := tbl_cons sm_k (tbl_cons (no_k Tryd.func36 rfl) (tbl_cons (no_k Tryd.func38 rfl) ok0))
theorem ito_t (n : Int) : opn κit Tryd.f24 [.int .i64 n] [] = bif (bif decide (0 ≤ n) then decide (n < 100) else false) then bif decide (0 ≤ n ∧ n < 100) then .ret (.str (dcB n)) [] else .fail else bif decide (n < 0) then .fail else .fail := by kernel_rfl
def clnV (ip l : Int) : Int × Int × Int := bif vld l then (clnI ip l, l, 0) else (0, 0, 2)
noncomputable def cln_s : CSumm := fun args H => match args, H with
 | [.agg [.int .u32 ip, .int .i64 l]], [] => .ret (.tup [.agg [.int .u32 (clnV ip l).1, .int .i64 (clnV ip l).2.1], .int .i64 (clnV ip l).2.2]) []
 | _, _ => .fail
theorem cln_k : Known Tryd.prog 11 cln_s := (openKnown (tbl_cons msk_k ok0) Tryd.func11 rfl).weak (by
 intro args H v ups h
 unfold cln_s at h
 split at h
 · rename_i ip l
   refine (congrArg crun (cln_t ip l)).trans ?_
   rw [← h]
   unfold clnV
   cases vld l <;> rfl
 · cases h)
noncomputable def ito_s : CSumm := fun args H => match args, H with
 | [.int .i64 n], [] => .ite (decide (0 ≤ n ∧ n < 100)) (.ret (.str (dcB n)) []) .fail
 | _, _ => .fail
theorem ito_k : Known Tryd.prog 24 ito_s := (openKnown itOk Tryd.func24 rfl).weak (by
 intro args H v ups h
 unfold ito_s at h
 split at h
 · rename_i n
   rw [crun_ite, cond_eq_ite] at h
   split at h
   · rename_i hc
     obtain ⟨h0, h1⟩ := of_decide_eq_true hc
     refine (congrArg crun (ito_t n)).trans ?_
     rw [decide_eq_true h0, decide_eq_true h1, cond_true, cond_true, decide_eq_true ⟨h0, h1⟩, cond_true]
     exact h
   · cases h
 · cases h)
noncomputable abbrev κpt := tbl [(6, ipt_s), (24, ito_s)]
theorem ptOk : KOk Tryd.prog κpt := tbl_cons ipt_k (tbl_cons ito_k ok0)
theorem pret_t (ip l : Int) : opn κpt Tryd.f12 [.agg [.int .u32 ip, .int .i64 l]] [] = bif !vld l then .ret (.tup [.str [], .int .i64 2]) [] else
 bif dec (∀ k, 0 ≤ octI ip k ∧ octI ip k ≤ 255) then bif decide ((ipB ip).length + ([47] : List UInt8).length ≤ 9223372036854775807) then bif decide (0 ≤ l ∧ l < 100) then bif decide ((ipB ip ++ [47]).length + (dcB l).length ≤ 9223372036854775807) then
  .ret (.tup [.str (ipB ip ++ [47] ++ dcB l), .int .i64 0]) [] else .fail else .fail else .fail else .fail := by kernel_rfl
end Go.Proofs.YtjjfggahllnafaaDoor
/- A string in lower case: the loop. -/
namespace Go.Proofs.YtjjfggahllnafaaDoor
open Go.Am
set_option maxRecDepth 100000
def lowI (n : Int) : Int := bif (bif decide (n ≥ 65) then decide (n ≤ 90) else false) then w8 (n + 32) else n
def lowV (v : SV) : SV := .int .u8 (lowI (asI v))
noncomputable def body14 : Code := Tryd.f14.body.getD .skip
noncomputable def c14 : Code := (loopAt 3 body14).getD .skip
def byl (l : List SV) : Prop := ∀ v ∈ l, ∃ x : Int, v = .int .u8 x ∧ 0 ≤ x ∧ x ≤ 255
def lwOk (es : List SV) (n : Nat) (i : Int) : Prop := n = es.length ∧ n ≤ 1000000 ∧ 0 ≤ i ∧ i ≤ n ∧ byl es
def lwL (es : List SV) (i : Nat) : List SV := es.take i ++ (es.drop i).map lowV
noncomputable def lw_s : CSumm := fun args H => match args, H with
 | [.qs 0 1 0 n, .int .i64 i], [(0, .seq 5 es)] => .ite (dec (lwOk es n i)) (.ret (.tup [.int .i64 2, .qs 0 1 0 n]) [(0, some (.seq 5 (lwL es i.toNat)))]) .fail
 | _, _ => .fail
def lwM : List SV → HpL → Nat
 | [.qs _ _ _ n, .int _ i], _ => n - i.toNat
 | _, _ => 0
noncomputable def e14 : LEnt := { ins := [3, 4], outs := [3], keep := [], size := 35, code := c14, s := lw_s }
noncomputable def lwN (N n : Nat) (es : List SV) (i : Int) : CTree := bif Nat.blt (n - i.toNat) N then bif dec (lwOk es n i) then .ret (.tup [.int .i64 2, .qs 0 1 0 n]) [(0, some (.seq 5 (lwL es i.toNat)))] else .fail else .fail
noncomputable def ixC (i : Int) (n m : Nat) (K : CTree) : CTree := bif inB i n then bif decide (0 + i.toNat < m) then K else .fail else .fail
noncomputable def lwX (N n : Nat) (es : List SV) (i : Int) (c : Int) : CTree := bif decide (c ≥ 65) then ixC i n es.length (bif decide (c ≤ 90) then
 ixC i n es.length (ixC i n es.length (lwN N n (es.set (0 + i.toNat) (.int .u8 (w8 (c + 32)))) (w64 (i + 1)))) else lwN N n es (w64 (i + 1))) else lwN N n es (w64 (i + 1))
theorem lw_t (N n : Nat) (es : List SV) (i : Int) : loopOnce Tryd.prog κ0 (fun _ => false) (ltab []) true 300 e14 { e14 with s := boundT lwM lw_s N } c14 [.qs 0 1 0 n, .int .i64 i] [(0, .seq 5 es)] =
 bif decide (i < n) then ixC i n es.length (lwX N n es i (asI (es.getD (0 + i.toNat) .junk))) else .ret (.tup [.int .i64 2, .qs 0 1 0 n]) [] := by kernel_rfl
end Go.Proofs.YtjjfggahllnafaaDoor
/- A string in lower case, known. -/
namespace Go.Proofs.YtjjfggahllnafaaDoor
open Go.Am
set_option maxRecDepth 100000
theorem getD_cons' {s : List SV} {k : Nat} (h : k < s.length) : s.drop k = s.getD k .junk :: s.drop (k + 1) := by
 rw [List.drop_eq_getElem_cons h, List.getD_eq_getElem?_getD, List.getElem?_eq_getElem h]; rfl
theorem lwL_at {es : List SV} {k : Nat} (h : k < es.length) : lwL es k = es.take k ++ lowV (es.getD k .junk) :: (es.drop (k + 1)).map lowV := by
 unfold lwL; rw [getD_cons' h, List.map_cons]
theorem take_succ' {es : List SV} {k : Nat} (h : k < es.length) : es.take (k + 1) = es.take k ++ [es.getD k .junk] := by
 rw [List.take_add_one, List.getD_eq_getElem?_getD, List.getElem?_eq_getElem h]; rfl
theorem lwL_set {es : List SV} {k : Nat} {w : SV} (h : k < es.length) : lwL (es.set k w) (k + 1) = es.take k ++ w :: (es.drop (k + 1)).map lowV := by
 unfold lwL
 rw [take_succ' (by rw [List.length_set]; exact h), List.take_set_of_le (Nat.le_refl k), List.drop_set_of_lt (Nat.lt_succ_self k), List.getD_eq_getElem?_getD, List.getElem?_set_self h]
 simp
theorem lwL_next {es : List SV} {k : Nat} (h : k < es.length) : lwL es (k + 1) = es.take k ++ es.getD k .junk :: (es.drop (k + 1)).map lowV := by
 unfold lwL; rw [take_succ' h]; simp
theorem getD_mem' {l : List SV} {j : Nat} (h : j < l.length) : l.getD j .junk ∈ l := by
 rw [List.getD_eq_getElem?_getD, List.getElem?_eq_getElem h]; exact List.getElem_mem h
theorem byl.set {l : List SV} (h : byl l) {k : Nat} {x : Int} (h0 : 0 ≤ x) (h1 : x ≤ 255) : byl (l.set k (.int .u8 x)) := fun v hv => by
 rcases List.mem_or_eq_of_mem_set hv with hv | rfl
 · exact h v hv
 · exact ⟨x, rfl, h0, h1⟩
theorem ixC_ok {i : Int} {n m : Nat} (h0 : 0 ≤ i) (h1 : i < n) (h2 : i.toNat < m) (K : CTree) : ixC i n m K = K := by
 unfold ixC; rw [inB_ok h0 h1, decide_eq_true (by omega)]; rfl
theorem lw_valid : ValidL Tryd.prog e14 := loop_valid5 (T := ltab []) (sp := true) (fuel := 300) (c := c14) (μ := lwM) mixTry ltab_nil (show fillC (ltab []) c14 = c14 by kernel_rfl) (by
 intro N args H v' ups' hbt h
 unfold e14 lw_s at h
 simp only [] at h
 split at h
 · rename_i n i es
   rw [crun_ite] at h
   cases hc : dec (lwOk es n i) with
   | false => rw [hc] at h; cases h
   | true =>
    rw [hc, cond_true] at h
    obtain ⟨rfl, hs, i0, i1, hb⟩ := dec_iff.1 hc
    have hN : Nat.blt (es.length - i.toNat) (N + 1) = true := hbt
    rw [Nat.blt_eq] at hN
    refine ⟨κ0, fun _ => false, κ0Ok, ?_⟩
    have ht := lw_t N es.length es i
    obtain ⟨k, rfl⟩ := Int.eq_ofNat_of_zero_le i0
    have hk : ((k : Nat) : Int).toNat = k := rfl
    rw [hk] at h hN
    by_cases hi : (k : Int) < es.length
    · have hkl : k < es.length := by omega
      obtain ⟨x, hx, x0, x1⟩ := hb _ (getD_mem' hkl)
      have hw : w64 ((k : Int) + 1) = ((k + 1 : Nat) : Int) := (w64_id (by omega) (by omega)).trans (by omega)
      have hk1 : ((k + 1 : Nat) : Int).toNat = k + 1 := rfl
      have nx : ∀ es', es'.length = es.length → byl es' → lwL es' (k + 1) = lwL es k → lwN N es.length es' ((k + 1 : Nat) : Int) = .ret (.tup [.int .i64 2, .qs 0 1 0 es.length]) [(0, some (.seq 5 (lwL es k)))] := fun es' hl hb' he => by
       unfold lwN
       rw [hk1, show Nat.blt (es.length - (k + 1)) N = true by rw [Nat.blt_eq]; omega, cond_true, dec_iff.2 ⟨hl.symm, hs, by omega, by omega, hb'⟩, cond_true, he]
      rw [decide_eq_true hi, cond_true, ixC_ok (by omega) hi (by omega), hk, Nat.zero_add, hx] at ht
      unfold lwX at ht
      rw [hk, Nat.zero_add, hw, show Am.asI (.int .u8 x) = x from rfl] at ht
      have hlow : lowV (es.getD k .junk) = .int .u8 (lowI x) := by rw [hx]; rfl
      by_cases a1 : x ≥ 65
      · rw [decide_eq_true a1, cond_true, ixC_ok (by omega) hi (by omega)] at ht
        by_cases a2 : x ≤ 90
        · have hl : lowI x = x + 32 := by unfold lowI; rw [decide_eq_true a1, decide_eq_true a2, cond_true, cond_true, show w8 (x + 32) = x + 32 from w8_id (by omega) (by omega)]
          rw [decide_eq_true a2, cond_true, ixC_ok (by omega) hi (by omega), ixC_ok (by omega) hi (by omega), show w8 (x + 32) = x + 32 from w8_id (by omega) (by omega), nx _ List.length_set (hb.set (by omega) (by omega)) (by rw [lwL_set hkl, lwL_at hkl, hlow, hl])] at ht
          exact ⟨_, _, (congrArg crun ht).trans h, .same fun _ => rfl⟩
        · have hl : lowI x = x := by unfold lowI; rw [decide_eq_true a1, decide_eq_false a2]; rfl
          rw [decide_eq_false a2, cond_false, nx _ rfl hb (by rw [lwL_next hkl, lwL_at hkl, hlow, hl, hx])] at ht
          exact ⟨_, _, (congrArg crun ht).trans h, .same fun _ => rfl⟩
      · have hl : lowI x = x := by unfold lowI; rw [decide_eq_false a1]; rfl
        rw [decide_eq_false a1, cond_false, nx _ rfl hb (by rw [lwL_next hkl, lwL_at hkl, hlow, hl, hx])] at ht
        exact ⟨_, _, (congrArg crun ht).trans h, .same fun _ => rfl⟩
    · rw [decide_eq_false hi, cond_false] at ht
      have he : lwL es k = es := by unfold lwL; rw [List.take_of_length_le (by omega), List.drop_eq_nil_of_le (by omega)]; simp
      rw [he] at h
      cases h
      refine ⟨_, _, congrArg crun ht, .same fun x => ?_⟩
      match x with
      | 0 => rfl
      | x + 1 => rfl
 · cases h)
noncomputable abbrev T14 : LTab := ltab [("l", e14)]
noncomputable abbrev m14 : Code := markC [(3, "l")] body14
noncomputable def low_b : CSumm := bodyCL Tryd.prog κ0 (fun _ => false) T14 true 300 Tryd.f14 m14
theorem low_k0 : Known Tryd.prog 14 low_b := ⟨⟨Tryd.f14, Tryd.func14, noNum_at noNumTry Tryd.func14, rfl⟩, bodyL_valid κ0Ok mixTry (ltab_cons lw_valid ltab_nil) Tryd.func14 (show Tryd.f14.body = some (fillC T14 m14) by kernel_rfl)⟩
theorem low_t (s : List UInt8) : low_b [.str s] [] = bif dec (lwOk (s.map byteSV) s.length 0) then strC s.length (lwL (s.map byteSV) (0 : Int).toNat) fun t => .ret (.str t) [] else .fail := by kernel_rfl
end Go.Proofs.YtjjfggahllnafaaDoor
/- Prefixes, known. -/
namespace Go.Proofs.YtjjfggahllnafaaDoor
open Go.Am
set_option maxRecDepth 100000
def octOk (ip : Int) : Prop := ∀ k, 0 ≤ octI ip k ∧ octI ip k ≤ 255
theorem ipB_len (ip : Int) : (ipB ip).length ≤ 15 := by
 unfold ipB
 have la := dcB_len (octI ip 24); have lb := dcB_len (octI ip 16); have lc := dcB_len (octI ip 8); have ld := dcB_len (octI ip 0)
 simp only [List.length_append, List.length_cons]
 omega
def pretV (ip l : Int) : List UInt8 × Int := bif vld l then (ipB ip ++ [47] ++ dcB l, 0) else ([], 2)
noncomputable def pret_s : CSumm := fun args H => match args, H with
 | [.agg [.int .u32 ip, .int .i64 l]], [] => .ite (dec (octOk ip)) (.ret (.tup [.str (pretV ip l).1, .int .i64 (pretV ip l).2]) []) .fail
 | _, _ => .fail
theorem pret_k : Known Tryd.prog 12 pret_s := (openKnown ptOk Tryd.func12 rfl).weak (by
 intro args H v ups h
 unfold pret_s at h
 split at h
 · rename_i ip l
   rw [crun_ite] at h
   cases hc : dec (octOk ip) with
   | false => rw [hc] at h; cases h
   | true =>
    rw [hc, cond_true] at h
    refine (congrArg crun (pret_t ip l)).trans ?_
    rw [← h]
    unfold pretV
    cases hv : vld l with
    | false => rfl
    | true =>
     obtain ⟨h0, h1⟩ := (vld_iff l).1 hv
     have l1 := ipB_len ip
     have l2 := dcB_len l
     have hc' : dec (∀ k, 0 ≤ octI ip k ∧ octI ip k ≤ 255) = true := hc
     rw [hc', decide_eq_true (show (ipB ip).length + ([47] : List UInt8).length ≤ 9223372036854775807 by simp only [List.length_singleton]; omega), decide_eq_true (show 0 ≤ l ∧ l < 100 by omega), decide_eq_true (show (ipB ip ++ [47] : List UInt8).length + (dcB l).length ≤ 9223372036854775807 by simp only [List.length_append, List.length_singleton]; omega)]
     rfl
 · cases h)
noncomputable abbrev κpp := tbl [(5, pip_s), (11, cln_s), (25, cut_s), (26, deci_s)]
theorem ppOk : KOk Tryd.prog κpp := tbl_cons pip_k (tbl_cons cln_k (tbl_cons cut2_k (tbl_cons deci_k ok0)))
def zP (e : Int) : CTree := .ret (.tup [.agg [.int .u32 0, .int .i64 0], .int .i64 e]) []
noncomputable def ppC (h : List UInt8 × List UInt8 × Bool) : CTree := bif decide (h.1.length ≤ 1000000) then bif decide (0 ≤ (32 : Int) ∧ (32 : Int) ≤ 255 ∧ h.2.1.length ≤ 1000000) then
 (fun (a r : Int × Int) (d : Int × Bool) => bif (bif a.2 != 0 then true else !d.2) then zP 19 else bif !((clnV a.1 d.1).1 == a.1 && (clnV a.1 d.1).2.1 == d.1) then zP 3 else .ret (.tup [.agg [.int .u32 a.1, .int .i64 d.1], .int .i64 0]) []) (pipV h.1) (0, 0) (decF 32 h.2.1) else .fail else .fail
theorem ppre_t (s : List UInt8) : opn κpp Tryd.f13 [.str s] [] = bif decide (s.length ≤ 1000000) then ppC (cutF 47 s) else .fail := by kernel_rfl
def ppreV (s : List UInt8) : (Int × Int) × Int := bif (bif (pipV (cutF 47 s).1).2 != 0 then true else !(decF 32 (cutF 47 s).2.1).2) then ((0, 0), 19) else
 bif !((clnV (pipV (cutF 47 s).1).1 (decF 32 (cutF 47 s).2.1).1).1 == (pipV (cutF 47 s).1).1 && (clnV (pipV (cutF 47 s).1).1 (decF 32 (cutF 47 s).2.1).1).2.1 == (decF 32 (cutF 47 s).2.1).1) then ((0, 0), 3) else (((pipV (cutF 47 s).1).1, (decF 32 (cutF 47 s).2.1).1), 0)
noncomputable def ppre_s : CSumm := fun args H => match args, H with
 | [.str s], [] => .ite (decide (s.length ≤ 1000000)) (.ret (.tup [.agg [.int .u32 (ppreV s).1.1, .int .i64 (ppreV s).1.2], .int .i64 (ppreV s).2]) []) .fail
 | _, _ => .fail
theorem ppre_k : Known Tryd.prog 13 ppre_s := (openKnown ppOk Tryd.func13 rfl).weak (by
 intro args H v ups h
 unfold ppre_s at h
 split at h
 · rename_i s
   rw [crun_ite, cond_eq_ite] at h
   split at h
   · rename_i hc
     have hs := of_decide_eq_true hc
     obtain ⟨h1, h2⟩ := cutF_len 47 s
     refine (congrArg crun (ppre_t s)).trans ?_
     rw [hc, cond_true, ← h]
     unfold ppC ppreV
     rw [decide_eq_true (show (cutF 47 s).1.length ≤ 1000000 by omega), cond_true, decide_eq_true ⟨by decide, by decide, by omega⟩, cond_true]
     dsimp only
     generalize pipV (cutF 47 s).1 = a
     generalize decF 32 (cutF 47 s).2.1 = d
     cases (bif a.2 != 0 then true else !d.2) with
     | true => rfl
     | false =>
      rw [cond_false, cond_false]
      cases !((clnV a.1 d.1).1 == a.1 && (clnV a.1 d.1).2.1 == d.1) <;> rfl
   · cases h
 · cases h)
end Go.Proofs.YtjjfggahllnafaaDoor
/- AddrTexts: the law's tree. -/
namespace Go.Proofs.YtjjfggahllnafaaDoor
open Go.Am
set_option maxRecDepth 100000
def lowB (b : UInt8) : UInt8 := Am.byteOf (lowV (byteSV b))
noncomputable def low_s : CSumm := fun args H => match args, H with
 | [.str s], [] => .ite (decide (s.length ≤ 1000000)) (.ret (.str (s.map lowB)) []) .fail
 | _, _ => .fail
theorem byl_SV (s : List UInt8) : byl (s.map byteSV) := fun v hv => by
 obtain ⟨b, _, rfl⟩ := List.mem_map.1 hv
 exact ⟨b.toNat, rfl, (chr_rng b).1, (chr_rng b).2⟩
theorem low_k : Known Tryd.prog 14 low_s := low_k0.weak (by
 intro args H v ups h
 unfold low_s at h
 split at h
 · rename_i s
   rw [crun_ite, cond_eq_ite] at h
   split at h
   · rename_i hc
     have hs := of_decide_eq_true hc
     refine (congrArg crun (low_t s)).trans ?_
     have he : lwL (s.map byteSV) (0 : Int).toNat = (s.map byteSV).map lowV := rfl
     rw [dec_iff.2 ⟨(List.length_map _).symm, by omega, Int.le_refl _, by omega, byl_SV s⟩, cond_true, he]
     unfold strC
     rw [decide_eq_true rfl, decide_eq_true (by rw [List.length_map, List.length_map]), Bool.and_self, cond_true, ← h, List.map_map, List.map_map]
     rfl
   · cases h
 · cases h)
def lives_s : CSumm := fun args H => match args, H with
 | [], [] => .ret (.bool true) []
 | _, _ => .fail
theorem lives_t : opn (tbl []) Tryd.f4 [] [] = .ret (.bool true) [] := by kernel_rfl
theorem lives_k : Known Tryd.prog 4 lives_s := (openKnown ok0 Tryd.func4 rfl).weak (by
 intro args H v ups h
 unfold lives_s at h
 split at h
 · exact (congrArg crun lives_t).trans h
 · cases h)
noncomputable abbrev κlw := tbl [(4, lives_s), (5, pip_s), (6, ipt_s), (7, pesi_s), (8, esit_s), (9, mact_s), (10, pmac_s), (11, cln_s), (12, pret_s), (13, ppre_s), (14, low_s)]
theorem lwK : KOk Tryd.prog κlw := tbl_cons lives_k (tbl_cons pip_k (tbl_cons ipt_k (tbl_cons pesi_k (tbl_cons esit_k (tbl_cons mact_k (tbl_cons pmac_k (tbl_cons cln_k (tbl_cons pret_k (tbl_cons ppre_k (tbl_cons low_k ok0))))))))))
def rtB (b : Bool) : CTree := .ret (.bool b) []
def l10 (l : List Int) : List Int := [l.getD 0 0, l.getD 1 0, l.getD 2 0, l.getD 3 0, l.getD 4 0, l.getD 5 0, l.getD 6 0, l.getD 7 0, l.getD 8 0, l.getD 9 0]
def eq10 (l m : List Int) : Bool := l.getD 0 0 == m.getD 0 0 && (l.getD 1 0 == m.getD 1 0 && (l.getD 2 0 == m.getD 2 0 && (l.getD 3 0 == m.getD 3 0 && (l.getD 4 0 == m.getD 4 0 && (l.getD 5 0 == m.getD 5 0 && (l.getD 6 0 == m.getD 6 0 && (l.getD 7 0 == m.getD 7 0 && (l.getD 8 0 == m.getD 8 0 && (l.getD 9 0 == m.getD 9 0)))))))))
noncomputable def w1C (ip : Int) (e : List Int) (K : CTree) : CTree := bif dec (∀ k, 0 ≤ octI ip k ∧ octI ip k ≤ 255) then bif decide ((ipB ip).length ≤ 1000000) then bif dec (bytesI (l10 e)) then bif decide ((pairsL (l10 e)).length ≤ 1000000) then
 bif (bif (bif (bif (pipV (ipB ip)).1 != ip then true else (pipV (ipB ip)).2 != 0) then true else !(eq10 (pesiV (pairsL (l10 e))).1 e)) then true else (pesiV (pairsL (l10 e))).2 != 0) then rtB false else K else .fail else .fail else .fail else .fail
def w2B (m pl : Int) (a : List UInt8 × Int) (b : Int × Int) (c : Int × Int × Int) (t : List UInt8 × Int) (q : (Int × Int) × Int) : Bool :=
 bif (bif (bif ((a.2 == 0) != decide (m ≤ 281474976710655)) then true else (bif a.2 == 0 then (bif b.1 != m then true else b.2 != 0) else false)) then true else ((c.2.2 == 0) != (bif decide (pl ≥ 0) then decide (pl ≤ 32) else false))) then true else
 (bif c.2.2 == 0 then (bif (bif t.2 != 0 then true else !(q.1.1 == c.1 && q.1.2 == c.2.1)) then true else q.2 != 0) else false)
noncomputable def w2C (m p pl : Int) (K : CTree) : CTree := bif decide ((mactV m).1.length ≤ 1000000) then bif dec (octOk (clnV p pl).1) then bif decide ((pretV (clnV p pl).1 (clnV p pl).2.1).1.length ≤ 1000000) then
 bif w2B m pl (mactV m) (pmacV (mactV m).1) (clnV p pl) (pretV (clnV p pl).1 (clnV p pl).2.1) (ppreV (pretV (clnV p pl).1 (clnV p pl).2.1).1) then rtB false else K else .fail else .fail else .fail
noncomputable def w3C (s : List UInt8) (K : CTree) : CTree := bif decide (s.length ≤ 1000000) then bif (pipV s).2 == 0 then bif dec (∀ k, 0 ≤ octI (pipV s).1 k ∧ octI (pipV s).1 k ≤ 255) then bif !(ipB (pipV s).1 == s) then rtB false else K else .fail else K else .fail
noncomputable def w4C (s : List UInt8) (K : CTree) : CTree := bif decide (s.length ≤ 1000000) then bif (pesiV s).2 == 0 then bif dec (bytesI (l10 (pesiV s).1)) then bif decide (s.length ≤ 1000000) then bif !(pairsL (l10 (pesiV s).1) == s.map lowB) then rtB false else K else .fail else .fail else K else .fail
noncomputable def w5C (s : List UInt8) (K : CTree) : CTree := bif decide (s.length ≤ 1000000) then bif (ppreV s).2 == 0 then bif dec (octOk (ppreV s).1.1) then bif (bif !((pretV (ppreV s).1.1 (ppreV s).1.2).1 == s) then true else (pretV (ppreV s).1.1 (ppreV s).1.2).2 != 0) then rtB false else K else .fail else K else .fail
noncomputable def w6C (s : List UInt8) : CTree := bif decide (s.length ≤ 1000000) then bif (pmacV s).2 != 0 then rtB true else bif decide (s.length ≤ 1000000) then bif (mactV (pmacV s).1).1 == s.map lowB then rtB ((mactV (pmacV s).1).2 == 0) else rtB false else .fail else .fail
theorem law_t (ip m p pl : Int) (e : List Int) (s : List UInt8) : opn κlw Tryd.f3 [.int .u32 ip, .int .u64 m, .agg [.int .u32 p, .int .i64 pl], es8 e, .str s] [] = bif decide ((s.length : Int) > 200) then rtB true else
 w1C ip e (w2C m p pl (w3C s (w4C s (w5C s (w6C s))))) := by kernel_rfl
end Go.Proofs.YtjjfggahllnafaaDoor
/- Addresses and their bytes: arithmetic. -/
namespace Go.Proofs.YtjjfggahllnafaaDoor
open Go.Am
set_option maxRecDepth 100000
theorem ofInt_nat {k n : Nat} (h : n < 2 ^ k) : (BitVec.ofInt k (n : Int)).toNat = n := by
 rw [BitVec.toNat_ofInt]
 have h1 : ((n : Int) % ((2 ^ k : Nat) : Int)).toNat = n % 2 ^ k := by
  rw [← Int.natCast_emod]; rfl
 rw [h1, Nat.mod_eq_of_lt h]
theorem or_nat {a b : Nat} (hb : b < 256) : (a * 256) ||| b = a * 256 + b := by
 have := Nat.two_pow_add_eq_or_of_lt (i := 8) (b := b) (by omega) a
 rw [Nat.mul_comm a 256]
 exact this.symm
theorem shO32 {a b : Int} (a0 : 0 ≤ a) (b0 : 0 ≤ b) (b1 : b < 256) (h : a * 256 + b < 4294967296) : shO .u32 a b = a * 256 + b := by
 obtain ⟨x, rfl⟩ := Int.eq_ofNat_of_zero_le a0
 obtain ⟨y, rfl⟩ := Int.eq_ofNat_of_zero_le b0
 have w : ∀ n : Int, 0 ≤ n → n < 4294967296 → IntKind.u32.wrap n = n := fun n h0 h1 => by simp [IntKind.wrap, IntKind.bits, IntKind.signed]; omega
 unfold shO orI
 rw [w ((x : Int) * 256) (by omega) (by omega), w (y : Int) (by omega) (by omega), BitVec.toNat_or]
 have e1 : (BitVec.ofInt IntKind.u32.bits ((x : Int) * 256)).toNat = x * 256 := by
  rw [show ((x : Int) * 256) = ((x * 256 : Nat) : Int) by omega]
  exact ofInt_nat (k := 32) (by omega)
 have e2 : (BitVec.ofInt IntKind.u32.bits (y : Int)).toNat = y := ofInt_nat (k := 32) (by omega)
 rw [e1, e2, or_nat (by omega), w _ (by omega) (by omega)]
 omega
theorem shO64 {a b : Int} (a0 : 0 ≤ a) (b0 : 0 ≤ b) (b1 : b < 256) (h : a * 256 + b < 18446744073709551616) : shO .u64 a b = a * 256 + b := by
 obtain ⟨x, rfl⟩ := Int.eq_ofNat_of_zero_le a0
 obtain ⟨y, rfl⟩ := Int.eq_ofNat_of_zero_le b0
 have w : ∀ n : Int, 0 ≤ n → n < 18446744073709551616 → IntKind.u64.wrap n = n := fun n h0 h1 => by simp [IntKind.wrap, IntKind.bits, IntKind.signed]; omega
 unfold shO orI
 rw [w ((x : Int) * 256) (by omega) (by omega), w (y : Int) (by omega) (by omega), BitVec.toNat_or]
 have e1 : (BitVec.ofInt IntKind.u64.bits ((x : Int) * 256)).toNat = x * 256 := by
  rw [show ((x : Int) * 256) = ((x * 256 : Nat) : Int) by omega]
  exact ofInt_nat (k := 64) (by omega)
 have e2 : (BitVec.ofInt IntKind.u64.bits (y : Int)).toNat = y := ofInt_nat (k := 64) (by omega)
 rw [e1, e2, or_nat (by omega), w _ (by omega) (by omega)]
 omega
theorem ipO_v {a b c d : Int} (a0 : 0 ≤ a) (a1 : a ≤ 255) (b0 : 0 ≤ b) (b1 : b ≤ 255) (c0 : 0 ≤ c) (c1 : c ≤ 255) (d0 : 0 ≤ d) (d1 : d ≤ 255) : ipO [a, b, c, d] = ((a * 256 + b) * 256 + c) * 256 + d := by
 have e : ipO [a, b, c, d] = shO .u32 (shO .u32 (shO .u32 (shO .u32 0 a) b) c) d := rfl
 rw [e, shO32 (a := 0) (by omega) a0 (by omega) (by omega), shO32 (by omega) b0 (by omega) (by omega), shO32 (by omega) c0 (by omega) (by omega), shO32 (by omega) d0 (by omega) (by omega)]
 omega
theorem macO_v {a b c d e f : Int} (a0 : 0 ≤ a) (a1 : a ≤ 255) (b0 : 0 ≤ b) (b1 : b ≤ 255) (c0 : 0 ≤ c) (c1 : c ≤ 255) (d0 : 0 ≤ d) (d1 : d ≤ 255) (e0 : 0 ≤ e) (e1 : e ≤ 255) (f0 : 0 ≤ f) (f1 : f ≤ 255) :
  macO [a, b, c, d, e, f] = ((((a * 256 + b) * 256 + c) * 256 + d) * 256 + e) * 256 + f := by
 have h : macO [a, b, c, d, e, f] = shO .u64 (shO .u64 (shO .u64 (shO .u64 (shO .u64 (shO .u64 0 a) b) c) d) e) f := rfl
 rw [h, shO64 (a := 0) (by omega) a0 (by omega) (by omega), shO64 (by omega) b0 (by omega) (by omega), shO64 (by omega) c0 (by omega) (by omega), shO64 (by omega) d0 (by omega) (by omega), shO64 (by omega) e0 (by omega) (by omega), shO64 (by omega) f0 (by omega) (by omega)]
 omega
theorem wu64_id {n : Int} (h0 : 0 ≤ n) (h1 : n < 18446744073709551616) : wu64 n = n := by
 show IntKind.u64.wrap n = n
 simp [IntKind.wrap, IntKind.bits, IntKind.signed]; omega
theorem octI_rng (ip : Int) (k : Nat) : 0 ≤ octI ip k ∧ octI ip k ≤ 255 := by
 unfold octI andI
 have hle : (BitVec.ofInt IntKind.u32.bits (ip.fdiv (2 ^ k)) &&& BitVec.ofInt IntKind.u32.bits 255).toNat ≤ 255 := by
  rw [BitVec.toNat_and]
  have : (BitVec.ofInt IntKind.u32.bits 255).toNat = 255 := by decide
  rw [this]
  exact Nat.and_le_right
 generalize (BitVec.ofInt IntKind.u32.bits (ip.fdiv (2 ^ k)) &&& BitVec.ofInt IntKind.u32.bits 255).toNat = n at *
 have e : IntKind.u32.wrap (n : Int) = n := by simp [IntKind.wrap, IntKind.bits, IntKind.signed]; omega
 rw [e, wu64_id (by omega) (by omega)]
 omega
theorem octOk_all (ip : Int) : octOk ip := fun k => octI_rng ip k
theorem octI_v {ip : Int} (h0 : 0 ≤ ip) (h1 : ip < 4294967296) (k : Nat) : octI ip k = ip / 2 ^ k % 256 := by
 obtain ⟨n, rfl⟩ := Int.eq_ofNat_of_zero_le h0
 unfold octI andI
 have ef : ((n : Nat) : Int).fdiv (2 ^ k) = ((n / 2 ^ k : Nat) : Int) := by
  rw [Int.fdiv_eq_ediv_of_nonneg _ (by exact Int.pow_nonneg (by decide))]
  rw [Int.natCast_ediv]
  simp
 have hlt : n / 2 ^ k < 2 ^ 32 := Nat.lt_of_le_of_lt (Nat.div_le_self _ _) (by omega)
 rw [ef, BitVec.toNat_and]
 have e1 : (BitVec.ofInt IntKind.u32.bits ((n / 2 ^ k : Nat) : Int)).toNat = n / 2 ^ k := ofInt_nat (k := 32) hlt
 have e2 : (BitVec.ofInt IntKind.u32.bits 255).toNat = 2 ^ 8 - 1 := by decide
 rw [e1, e2, Nat.and_two_pow_sub_one_eq_mod]
 have hm : n / 2 ^ k % 2 ^ 8 < 256 := Nat.mod_lt _ (by decide)
 have e : IntKind.u32.wrap ((n / 2 ^ k % 2 ^ 8 : Nat) : Int) = ((n / 2 ^ k % 2 ^ 8 : Nat) : Int) := by simp [IntKind.wrap, IntKind.bits, IntKind.signed]; omega
 rw [e, wu64_id (by omega) (by omega)]
 rw [Int.natCast_emod, Int.natCast_ediv]
 simp
theorem oct24 {ip : Int} (h0 : 0 ≤ ip) (h1 : ip < 4294967296) : octI ip 24 = ip / 16777216 % 256 ∧ octI ip 16 = ip / 65536 % 256 ∧ octI ip 8 = ip / 256 % 256 ∧ octI ip 0 = ip % 256 := by
 have e24 : (2 : Int) ^ 24 = 16777216 := by decide
 have e16 : (2 : Int) ^ 16 = 65536 := by decide
 have e8 : (2 : Int) ^ 8 = 256 := by decide
 have e0 : (2 : Int) ^ 0 = 1 := by decide
 rw [octI_v h0 h1, octI_v h0 h1, octI_v h0 h1, octI_v h0 h1, e24, e16, e8, e0, Int.ediv_one]
 exact ⟨rfl, rfl, rfl, rfl⟩
theorem macL_v {m : Int} (h0 : 0 ≤ m) : macL m = [m / 1099511627776 % 256, m / 4294967296 % 256, m / 16777216 % 256, m / 65536 % 256, m / 256 % 256, m % 256] := by
 have e40 : (2 : Int) ^ 40 = 1099511627776 := by decide
 have e32 : (2 : Int) ^ 32 = 4294967296 := by decide
 have e24 : (2 : Int) ^ 24 = 16777216 := by decide
 have e16 : (2 : Int) ^ 16 = 65536 := by decide
 have e8 : (2 : Int) ^ 8 = 256 := by decide
 have e0 : (2 : Int) ^ 0 = 1 := by decide
 have w : ∀ n : Int, w8 n = n % 256 := fun n => by simp [IntKind.wrap, IntKind.bits, IntKind.signed]
 have f : ∀ d : Int, 0 ≤ d → m.fdiv d = m / d := fun d hd => Int.fdiv_eq_ediv_of_nonneg _ hd
 unfold macL
 rw [e40, e32, e24, e16, e8, e0, f _ (by decide), f _ (by decide), f _ (by decide), f _ (by decide), f _ (by decide), f _ (by decide), w, w, w, w, w, w, Int.ediv_one]
theorem clnI_rng (a b : Int) : 0 ≤ clnI a b ∧ clnI a b < 4294967296 := by
 unfold clnI andI
 simp [IntKind.wrap, IntKind.bits, IntKind.signed]
 omega
theorem clnI_idem (a b : Int) : clnI (clnI a b) b = clnI a b := by
 have hw : ∀ x : BitVec 32, IntKind.u32.wrap (x.toNat : Int) = x.toNat := fun x => by
  have := x.isLt
  simp [IntKind.wrap, IntKind.bits, IntKind.signed]; omega
 have hx : ∀ x : BitVec 32, BitVec.ofInt 32 (x.toNat : Int) = x := fun x => by
  apply BitVec.eq_of_toNat_eq
  exact ofInt_nat x.isLt
 unfold clnI andI
 show IntKind.u32.wrap ((BitVec.ofInt 32 (IntKind.u32.wrap ((BitVec.ofInt 32 a &&& BitVec.ofInt 32 (mskI b)).toNat : Int)) &&& BitVec.ofInt 32 (mskI b)).toNat : Int) = IntKind.u32.wrap ((BitVec.ofInt 32 a &&& BitVec.ofInt 32 (mskI b)).toNat : Int)
 rw [hw (BitVec.ofInt 32 a &&& BitVec.ofInt 32 (mskI b)), hx, BitVec.and_assoc, BitVec.and_self, hw]
end Go.Proofs.YtjjfggahllnafaaDoor
