/- Prefixes. -/
import Derived.Test.YtjjfggahllnafaaGreatDoorPart2
set_option linter.unusedVariables false
set_option linter.unusedSimpArgs false
namespace Go.Proofs.YtjjfggahllnafaaGreatDoor
open Go.Am
set_option maxRecDepth 100000
def vld (l : Int) : Bool := bif decide (l ≥ 0) then decide (l ≤ 32) else false
theorem vld_iff (l : Int) : vld l = true ↔ 0 ≤ l ∧ l ≤ 32 := by
 unfold vld
 cases h : decide (l ≥ 0) <;> simp at h ⊢ <;> omega
def mskI (l : Int) : Int := w32 (4294967295 * 2 ^ min (w64 (32 - l)).toNat IntKind.u32.bits)
def clnI (a b : Int) : Int := andI .u32 a (mskI b)
theorem msk_t (l : Int) : opn (tbl []) Tryz.f34 [.int .i64 l] [] = bif decide (w64 (32 - l) < 0) then .fail else .ret (.int .u32 (mskI l)) [] := by kernel_rfl
noncomputable def msk_s : CSumm := fun args H => match args, H with
 | [.int .i64 l], [] => .ite (vld l) (.ret (.int .u32 (mskI l)) []) .fail
 | _, _ => .fail
theorem msk_k : Known Tryz.prog 34 msk_s := (openKnown ok0 Tryz.func34 rfl).weak (by
 intro args H v ups h
 unfold msk_s at h
 split at h
 · rename_i l
   rw [crun_ite] at h
   cases hv : vld l with
   | false => rw [hv] at h; cases h
   | true =>
    rw [hv, cond_true] at h
    obtain ⟨h0, h1⟩ := (vld_iff l).1 hv
    refine (congrArg crun (msk_t l)).trans ?_
    rw [decide_eq_false (by rw [show w64 (32 - l) = 32 - l from w64_id (by omega) (by omega)]; omega)]
    exact h
 · cases h)
theorem cln_t (ip l : Int) : opn (tbl [(34, msk_s)]) Tryz.f15 [.agg [.int .u32 ip, .int .i64 l]] [] = bif !vld l then .ret (.tup [.agg [.int .u32 0, .int .i64 0], .int .i64 2]) [] else
 bif vld l then .ret (.tup [.agg [.int .u32 (clnI ip l), .int .i64 l], .int .i64 0]) [] else .fail := by kernel_rfl
noncomputable abbrev κit := tbl [(88, sm_s), (89, noS), (91, noS)]
theorem itOk : KOk Tryz.prog κit := tbl_cons sm_k (tbl_cons (no_k Tryz.func89 rfl) (tbl_cons (no_k Tryz.func91 rfl) ok0))
theorem ito_t (n : Int) : opn κit Tryz.f65 [.int .i64 n] [] = bif (bif decide (0 ≤ n) then decide (n < 100) else false) then bif decide (0 ≤ n ∧ n < 100) then .ret (.str (dcB n)) [] else .fail else bif decide (n < 0) then .fail else .fail := by kernel_rfl
def clnV (ip l : Int) : Int × Int × Int := bif vld l then (clnI ip l, l, 0) else (0, 0, 2)
noncomputable def cln_s : CSumm := fun args H => match args, H with
 | [.agg [.int .u32 ip, .int .i64 l]], [] => .ret (.tup [.agg [.int .u32 (clnV ip l).1, .int .i64 (clnV ip l).2.1], .int .i64 (clnV ip l).2.2]) []
 | _, _ => .fail
theorem cln_k : Known Tryz.prog 15 cln_s := (openKnown (tbl_cons msk_k ok0) Tryz.func15 rfl).weak (by
 intro args H v ups h
 unfold cln_s at h
 split at h
 · rename_i ip l
   refine (congrArg crun (cln_t ip l)).trans ?_
   rw [← h]
   unfold clnV
   cases vld l <;> rfl
 · cases h)
noncomputable def ito_s : CSumm := fun args H => match args, H with
 | [.int .i64 n], [] => .ite (decide (0 ≤ n ∧ n < 100)) (.ret (.str (dcB n)) []) .fail
 | _, _ => .fail
theorem ito_k : Known Tryz.prog 65 ito_s := (openKnown itOk Tryz.func65 rfl).weak (by
 intro args H v ups h
 unfold ito_s at h
 split at h
 · rename_i n
   rw [crun_ite, cond_eq_ite] at h
   split at h
   · rename_i hc
     obtain ⟨h0, h1⟩ := of_decide_eq_true hc
     refine (congrArg crun (ito_t n)).trans ?_
     rw [decide_eq_true h0, decide_eq_true h1, cond_true, cond_true, decide_eq_true ⟨h0, h1⟩, cond_true]
     exact h
   · cases h
 · cases h)
noncomputable abbrev κpt := tbl [(47, ipt_s), (65, ito_s)]
theorem ptOk : KOk Tryz.prog κpt := tbl_cons ipt_k (tbl_cons ito_k ok0)
theorem pret_t (ip l : Int) : opn κpt Tryz.f45 [.agg [.int .u32 ip, .int .i64 l]] [] = bif !vld l then .ret (.tup [.str [], .int .i64 2]) [] else
 bif dec (∀ k, 0 ≤ octI ip k ∧ octI ip k ≤ 255) then bif decide ((ipB ip).length + ([47] : List UInt8).length ≤ 9223372036854775807) then bif decide (0 ≤ l ∧ l < 100) then bif decide ((ipB ip ++ [47]).length + (dcB l).length ≤ 9223372036854775807) then
  .ret (.tup [.str (ipB ip ++ [47] ++ dcB l), .int .i64 0]) [] else .fail else .fail else .fail else .fail := by kernel_rfl
end Go.Proofs.YtjjfggahllnafaaGreatDoor
/- Prefixes, known. -/
namespace Go.Proofs.YtjjfggahllnafaaGreatDoor
open Go.Am
set_option maxRecDepth 100000
def octOk (ip : Int) : Prop := ∀ k, 0 ≤ octI ip k ∧ octI ip k ≤ 255
theorem ipB_len (ip : Int) : (ipB ip).length ≤ 15 := by
 unfold ipB
 have la := dcB_len (octI ip 24); have lb := dcB_len (octI ip 16); have lc := dcB_len (octI ip 8); have ld := dcB_len (octI ip 0)
 simp only [List.length_append, List.length_cons]
 omega
def pretV (ip l : Int) : List UInt8 × Int := bif vld l then (ipB ip ++ [47] ++ dcB l, 0) else ([], 2)
noncomputable def pret_s : CSumm := fun args H => match args, H with
 | [.agg [.int .u32 ip, .int .i64 l]], [] => .ite (dec (octOk ip)) (.ret (.tup [.str (pretV ip l).1, .int .i64 (pretV ip l).2]) []) .fail
 | _, _ => .fail
theorem pret_k : Known Tryz.prog 45 pret_s := (openKnown ptOk Tryz.func45 rfl).weak (by
 intro args H v ups h
 unfold pret_s at h
 split at h
 · rename_i ip l
   rw [crun_ite] at h
   cases hc : dec (octOk ip) with
   | false => rw [hc] at h; cases h
   | true =>
    rw [hc, cond_true] at h
    refine (congrArg crun (pret_t ip l)).trans ?_
    rw [← h]
    unfold pretV
    cases hv : vld l with
    | false => rfl
    | true =>
     obtain ⟨h0, h1⟩ := (vld_iff l).1 hv
     have l1 := ipB_len ip
     have l2 := dcB_len l
     have hc' : dec (∀ k, 0 ≤ octI ip k ∧ octI ip k ≤ 255) = true := hc
     rw [hc', decide_eq_true (show (ipB ip).length + ([47] : List UInt8).length ≤ 9223372036854775807 by simp only [List.length_singleton]; omega), decide_eq_true (show 0 ≤ l ∧ l < 100 by omega), decide_eq_true (show (ipB ip ++ [47] : List UInt8).length + (dcB l).length ≤ 9223372036854775807 by simp only [List.length_append, List.length_singleton]; omega)]
     rfl
 · cases h)
noncomputable abbrev κpp := tbl [(53, pip_s), (15, cln_s), (74, cut_s), (75, deci_s)]
theorem ppOk : KOk Tryz.prog κpp := tbl_cons pip_k (tbl_cons cln_k (tbl_cons cut2_k (tbl_cons deci_k ok0)))
def zP (e : Int) : CTree := .ret (.tup [.agg [.int .u32 0, .int .i64 0], .int .i64 e]) []
noncomputable def ppC (h : List UInt8 × List UInt8 × Bool) : CTree := bif decide (h.1.length ≤ 1000000) then bif decide (0 ≤ (32 : Int) ∧ (32 : Int) ≤ 255 ∧ h.2.1.length ≤ 1000000) then
 (fun (a r : Int × Int) (d : Int × Bool) => bif (bif a.2 != 0 then true else !d.2) then zP 19 else bif !((clnV a.1 d.1).1 == a.1 && (clnV a.1 d.1).2.1 == d.1) then zP 3 else .ret (.tup [.agg [.int .u32 a.1, .int .i64 d.1], .int .i64 0]) []) (pipV h.1) (0, 0) (decF 32 h.2.1) else .fail else .fail
theorem ppre_t (s : List UInt8) : opn κpp Tryz.f55 [.str s] [] = bif decide (s.length ≤ 1000000) then ppC (cutF 47 s) else .fail := by kernel_rfl
def ppreV (s : List UInt8) : (Int × Int) × Int := bif (bif (pipV (cutF 47 s).1).2 != 0 then true else !(decF 32 (cutF 47 s).2.1).2) then ((0, 0), 19) else
 bif !((clnV (pipV (cutF 47 s).1).1 (decF 32 (cutF 47 s).2.1).1).1 == (pipV (cutF 47 s).1).1 && (clnV (pipV (cutF 47 s).1).1 (decF 32 (cutF 47 s).2.1).1).2.1 == (decF 32 (cutF 47 s).2.1).1) then ((0, 0), 3) else (((pipV (cutF 47 s).1).1, (decF 32 (cutF 47 s).2.1).1), 0)
noncomputable def ppre_s : CSumm := fun args H => match args, H with
 | [.str s], [] => .ite (decide (s.length ≤ 1000000)) (.ret (.tup [.agg [.int .u32 (ppreV s).1.1, .int .i64 (ppreV s).1.2], .int .i64 (ppreV s).2]) []) .fail
 | _, _ => .fail
theorem ppre_k : Known Tryz.prog 55 ppre_s := (openKnown ppOk Tryz.func55 rfl).weak (by
 intro args H v ups h
 unfold ppre_s at h
 split at h
 · rename_i s
   rw [crun_ite, cond_eq_ite] at h
   split at h
   · rename_i hc
     have hs := of_decide_eq_true hc
     obtain ⟨h1, h2⟩ := cutF_len 47 s
     refine (congrArg crun (ppre_t s)).trans ?_
     rw [hc, cond_true, ← h]
     unfold ppC ppreV
     rw [decide_eq_true (show (cutF 47 s).1.length ≤ 1000000 by omega), cond_true, decide_eq_true ⟨by decide, by decide, by omega⟩, cond_true]
     dsimp only
     generalize pipV (cutF 47 s).1 = a
     generalize decF 32 (cutF 47 s).2.1 = d
     cases (bif a.2 != 0 then true else !d.2) with
     | true => rfl
     | false =>
      rw [cond_false, cond_false]
      cases !((clnV a.1 d.1).1 == a.1 && (clnV a.1 d.1).2.1 == d.1) <;> rfl
   · cases h
 · cases h)
end Go.Proofs.YtjjfggahllnafaaGreatDoor
/- AddrCalls: comparing, the plain numbers. -/
namespace Go.Proofs.YtjjfggahllnafaaGreatDoor
open Go.Am
set_option maxRecDepth 100000
def cmpV (a b : Int) : Int := bif decide (a < b) then -1 else bif decide (a > b) then 1 else 0
def cmpT (a b : Int) : CTree := bif a != a then bif b != b then .ret (.int .i64 0) [] else .ret (.int .i64 (-1)) [] else bif b != b then .ret (.int .i64 1) [] else
 bif decide (a < b) then .ret (.int .i64 (-1)) [] else bif decide (a > b) then .ret (.int .i64 1) [] else .ret (.int .i64 0) []
theorem cmpT_v (a b : Int) : crun (cmpT a b) = crun (.ret (.int .i64 (cmpV a b)) []) := by
 unfold cmpT cmpV
 rw [show (a != a) = false by simp, show (b != b) = false by simp, cond_false, cond_false]
 cases decide (a < b) <;> cases decide (a > b) <;> rfl
def c4_s : CSumm := fun args H => match args, H with
 | [.int .u32 a, .int .u32 b], [] => .ret (.int .i64 (cmpV a b)) []
 | _, _ => .fail
def c3_s : CSumm := fun args H => match args, H with
 | [.int .i64 a, .int .i64 b], [] => .ret (.int .i64 (cmpV a b)) []
 | _, _ => .fail
def c8_s : CSumm := fun args H => match args, H with
 | [.int .u8 a, .int .u8 b], [] => .ret (.int .i64 (cmpV a b)) []
 | _, _ => .fail
theorem c4_t (a b : Int) : opn (tbl []) Tryz.f38 [.int .u32 a, .int .u32 b] [] = cmpT a b := by kernel_rfl
theorem c3_t (a b : Int) : opn (tbl []) Tryz.f39 [.int .i64 a, .int .i64 b] [] = cmpT a b := by kernel_rfl
theorem c8_t (a b : Int) : opn (tbl []) Tryz.f42 [.int .u8 a, .int .u8 b] [] = cmpT a b := by kernel_rfl
theorem cr_t (a b : Int) : opn (tbl []) Tryz.f40 [.int .i64 a, .int .i64 b] [] = bif decide (a < b) then .ret (.int .i64 (-1)) [] else bif decide (a > b) then .ret (.int .i64 1) [] else .ret (.int .i64 0) [] := by kernel_rfl
theorem c4_k : Known Tryz.prog 38 c4_s := (openKnown ok0 Tryz.func38 rfl).weak (by
 intro args H v ups h
 unfold c4_s at h
 split at h
 · rw [← h]; exact (congrArg crun (c4_t _ _)).trans (cmpT_v _ _)
 · cases h)
theorem c3_k : Known Tryz.prog 39 c3_s := (openKnown ok0 Tryz.func39 rfl).weak (by
 intro args H v ups h
 unfold c3_s at h
 split at h
 · rw [← h]; exact (congrArg crun (c3_t _ _)).trans (cmpT_v _ _)
 · cases h)
theorem c8_k : Known Tryz.prog 42 c8_s := (openKnown ok0 Tryz.func42 rfl).weak (by
 intro args H v ups h
 unfold c8_s at h
 split at h
 · rw [← h]; exact (congrArg crun (c8_t _ _)).trans (cmpT_v _ _)
 · cases h)
theorem cr_k : Known Tryz.prog 40 c3_s := (openKnown ok0 Tryz.func40 rfl).weak (by
 intro args H v ups h
 unfold c3_s at h
 split at h
 · rename_i a b
   rw [← h]
   refine (congrArg crun (cr_t _ _)).trans ?_
   unfold cmpV
   cases decide (a < b) <;> cases decide (a > b) <;> rfl
 · cases h)
def orS : CSumm := fun args H => match args, H with
 | [.sl 0 1 0 2], [(0, .cells 3 [.int .i64 a, .int .i64 b])] => .ret (.int .i64 (bif a != 0 then a else b)) []
 | _, _ => .fail
theorem or_t (a b : Int) : opn (tbl []) Tryz.f37 [.sl 0 1 0 2] [(0, .cells 3 [.int .i64 a, .int .i64 b])] = bif a != 0 then .ret (.int .i64 a) [] else bif b != 0 then .ret (.int .i64 b) [] else .ret (.int .i64 0) [] := by kernel_rfl
theorem or_k : Known Tryz.prog 37 orS := (openKnown ok0 Tryz.func37 rfl).weak (by
 intro args H v ups h
 unfold orS at h
 split at h
 · rename_i a b
   rw [← h]
   refine (congrArg crun (or_t _ _)).trans ?_
   cases ha : a != 0
   · cases hb : b != 0
     · have : b = 0 := by simpa using hb
       subst this; rfl
     · rfl
   · rfl
 · cases h)
abbrev px (a b : Int) : SV := .agg [.int .u32 a, .int .i64 b]
/- Prefixes compared. -/
def cpV (a b c d : Int) : Int := bif cmpV a c != 0 then cmpV a c else cmpV b d
theorem cp_t (a b c d : Int) : opn (tbl [(38, c4_s), (39, c3_s), (37, orS)]) Tryz.f25 [px a b, px c d] [] = .ret (.int .i64 (cpV a b c d)) [] := by kernel_rfl
theorem cpr_t (a b c d : Int) : opn (tbl [(40, c3_s)]) Tryz.f26 [px a b, px c d] [] = bif cmpV (w64 a) (w64 c) == 0 then .ret (.int .i64 (cmpV b d)) [] else .ret (.int .i64 (cmpV (w64 a) (w64 c))) [] := by kernel_rfl
def u32B (a : Int) : Bool := decide (0 ≤ a) && decide (a < 4294967296)
theorem u32B_iff {a : Int} : u32B a = true ↔ 0 ≤ a ∧ a < 4294967296 := by simp [u32B]
def cp_s : CSumm := fun args H => match args, H with
 | [.agg [.int .u32 a, .int .i64 b], .agg [.int .u32 c, .int .i64 d]], [] => .ite (u32B a && u32B c) (.ret (.int .i64 (cpV a b c d)) []) .fail
 | _, _ => .fail
theorem cp_k : Known Tryz.prog 25 cp_s := (openKnown (tbl_cons c4_k (tbl_cons c3_k (tbl_cons or_k ok0))) Tryz.func25 rfl).weak (by
 intro args H v ups h
 unfold cp_s at h
 split at h
 · rename_i a b c d
   rw [crun_ite] at h
   cases hc : u32B a && u32B c with
   | false => rw [hc] at h; cases h
   | true =>
    rw [hc, cond_true] at h
    exact (congrArg crun (cp_t a b c d)).trans h
 · cases h)
theorem cpr_k : Known Tryz.prog 26 cp_s := (openKnown (tbl_cons cr_k ok0) Tryz.func26 rfl).weak (by
 intro args H v ups h
 unfold cp_s at h
 split at h
 · rename_i a b c d
   rw [crun_ite] at h
   cases hc : u32B a && u32B c with
   | false => rw [hc] at h; cases h
   | true =>
    rw [hc, cond_true] at h
    simp only [Bool.and_eq_true, u32B_iff] at hc
    refine (congrArg crun (cpr_t a b c d)).trans ?_
    rw [show w64 a = a from w64_id (by omega) (by omega), show w64 c = c from w64_id (by omega) (by omega), ← h]
    unfold cpV
    cases hq : cmpV a c != 0 with
    | true => rw [show (cmpV a c == 0) = false by simpa using hq]; rfl
    | false => rw [show (cmpV a c == 0) = true by simpa using hq]; rfl
 · cases h)
/- Identifiers compared. -/
def ceF : Nat → Nat → List Int → List Int → Int
 | 0, _, _, _ => 0
 | k + 1, i, a, b => bif cmpV (a.getD i 0) (b.getD i 0) != 0 then cmpV (a.getD i 0) (b.getD i 0) else ceF k (i + 1) a b
def ceT : Nat → Nat → List Int → List Int → CTree
 | 0, _, _, _ => .ret (.int .i64 0) []
 | k + 1, i, a, b => bif cmpV (a.getD i 0) (b.getD i 0) != 0 then .ret (.int .i64 (cmpV (a.getD i 0) (b.getD i 0))) [] else ceT k (i + 1) a b
theorem ceT_v : ∀ (k i : Nat) (a b : List Int), crun (ceT k i a b) = crun (.ret (.int .i64 (ceF k i a b)) [])
 | 0, _, _, _ => rfl
 | k + 1, i, a, b => by
  unfold ceT ceF
  rw [crun_cond]
  cases cmpV (a.getD i 0) (b.getD i 0) != 0
  · exact ceT_v k (i + 1) a b
  · rfl
theorem ce_t (a b c d e f g h i j a' b' c' d' e' f' g' h' i' j' : Int) : opn (tbl [(42, c8_s)]) Tryz.f27 [es8 [a, b, c, d, e, f, g, h, i, j], es8 [a', b', c', d', e', f', g', h', i', j']] [] = ceT 10 0 [a, b, c, d, e, f, g, h, i, j] [a', b', c', d', e', f', g', h', i', j'] := by kernel_rfl
theorem cer_t (a b c d e f g h i j a' b' c' d' e' f' g' h' i' j' : Int) : opn (tbl [(40, c3_s)]) Tryz.f28 [es8 [a, b, c, d, e, f, g, h, i, j], es8 [a', b', c', d', e', f', g', h', i', j']] [] = ceT 10 0 [w64 a, w64 b, w64 c, w64 d, w64 e, w64 f, w64 g, w64 h, w64 i, w64 j] [w64 a', w64 b', w64 c', w64 d', w64 e', w64 f', w64 g', w64 h', w64 i', w64 j'] := by kernel_rfl
end Go.Proofs.YtjjfggahllnafaaGreatDoor
/- AddrCalls: identifiers. -/
namespace Go.Proofs.YtjjfggahllnafaaGreatDoor
open Go.Am
set_option maxRecDepth 100000
theorem map_w64 : ∀ {l : List Int}, bytesI l → l.map w64 = l
 | [], _ => rfl
 | x :: r, h => by
  have := h x (by simp)
  rw [List.map_cons, map_w64 (fun y hy => h y (by simp [hy])), show w64 x = x from w64_id (by omega) (by omega)]
noncomputable def ce_s : CSumm := fun args H => match args, H with
 | [.agg [.int .u8 a, .int .u8 b, .int .u8 c, .int .u8 d, .int .u8 e, .int .u8 f, .int .u8 g, .int .u8 h, .int .u8 i, .int .u8 j], .agg [.int .u8 a', .int .u8 b', .int .u8 c', .int .u8 d', .int .u8 e', .int .u8 f', .int .u8 g', .int .u8 h', .int .u8 i', .int .u8 j']], [] =>
  .ite (dec (bytesI [a, b, c, d, e, f, g, h, i, j] ∧ bytesI [a', b', c', d', e', f', g', h', i', j'])) (.ret (.int .i64 (ceF 10 0 [a, b, c, d, e, f, g, h, i, j] [a', b', c', d', e', f', g', h', i', j'])) []) .fail
 | _, _ => .fail
theorem ce_k : Known Tryz.prog 27 ce_s := (openKnown (tbl_cons c8_k ok0) Tryz.func27 rfl).weak (by
 intro args H v ups hh
 unfold ce_s at hh
 split at hh
 · rw [crun_ite, cond_eq_ite] at hh
   split at hh
   · rw [← hh]; exact (congrArg crun (ce_t ..)).trans (ceT_v ..)
   · cases hh
 · cases hh)
theorem cer_k : Known Tryz.prog 28 ce_s := (openKnown (tbl_cons cr_k ok0) Tryz.func28 rfl).weak (by
 intro args H v ups hh
 unfold ce_s at hh
 split at hh
 · rename_i a b c d e f g h i j a' b' c' d' e' f' g' h' i' j'
   rw [crun_ite, cond_eq_ite] at hh
   split at hh
   · rename_i hc
     obtain ⟨h1, h2⟩ := dec_iff.1 hc
     rw [← hh]
     refine (congrArg crun (cer_t ..)).trans ?_
     refine (ceT_v ..).trans ?_
     show crun (.ret (.int .i64 (ceF 10 0 ([a, b, c, d, e, f, g, h, i, j].map w64) ([a', b', c', d', e', f', g', h', i', j'].map w64))) []) = _
     rw [map_w64 h1, map_w64 h2]
   · cases hh
 · cases hh)
def sgB (n : Int) : Bool := bif decide (n < 0) then true else decide (n ≥ 64)
def sgV (n : Int) : List Int × Int := bif sgB n then ([0, 0, 0, 0, 0, 0, 0, 0, 0, 0], 2) else ([3, 0, 0, 0, 0, 0, 0, 0, 0, w8 (w64 (n + 1))], 0)
def sgT (n : Int) : CTree := bif sgB n then .ret (.tup [es8 [0, 0, 0, 0, 0, 0, 0, 0, 0, 0], .int .i64 2]) [] else .ret (.tup [es8 [3, 0, 0, 0, 0, 0, 0, 0, 0, w8 (w64 (n + 1))], .int .i64 0]) []
theorem sg_t (n : Int) : opn (tbl []) Tryz.f17 [.int .i64 n] [] = sgT n := by kernel_rfl
theorem sgr_t (n : Int) : opn (tbl []) Tryz.f18 [.int .i64 n] [] = sgT n := by kernel_rfl
def sg_s : CSumm := fun args H => match args, H with
 | [.int .i64 n], [] => .ret (.tup [es8 (sgV n).1, .int .i64 (sgV n).2]) []
 | _, _ => .fail
theorem sgT_v (n : Int) : crun (sgT n) = crun (.ret (.tup [es8 (sgV n).1, .int .i64 (sgV n).2]) []) := by
 unfold sgT sgV
 cases sgB n <;> rfl
theorem sg_k : Known Tryz.prog 17 sg_s := (openKnown ok0 Tryz.func17 rfl).weak (by
 intro args H v ups h
 unfold sg_s at h
 split at h
 · rw [← h]; exact (congrArg crun (sg_t _)).trans (sgT_v _)
 · cases h)
theorem sgr_k : Known Tryz.prog 18 sg_s := (openKnown ok0 Tryz.func18 rfl).weak (by
 intro args H v ups h
 unfold sg_s at h
 split at h
 · rw [← h]; exact (congrArg crun (sgr_t _)).trans (sgT_v _)
 · cases h)
end Go.Proofs.YtjjfggahllnafaaGreatDoor
/- AddrCalls: nodes, masks. -/
namespace Go.Proofs.YtjjfggahllnafaaGreatDoor
open Go.Am
set_option maxRecDepth 100000
def orB (a b : Bool) : Bool := bif a then true else b
def lbV (n : Int) : Int × Int := bif orB (decide (n < 0)) (decide (n ≥ 32)) then (0, 2) else (w32 (w32 (184483840 + w32 n) + 1), 0)
def nodV (n : Int) : Int × Bool := bif orB (decide (n ≤ 184483840)) (decide (n > 184483872)) then (0, false) else (w64 (w32 (w32 (n - 184483840) - 1)), true)
def rmV (n : Int) : Int × Int := bif orB (decide (n < 0)) (decide (n ≥ 32)) then (0, 2) else (IntKind.u64.wrap (2199023255552 + IntKind.u64.wrap n), 0)
def rnV (n : Int) : Int × Bool := bif orB (decide (n < 2199023255552)) (decide (n ≥ 2199023255584)) then (0, false) else (w64 (IntKind.u64.wrap (n - 2199023255552)), true)
def lb_s : CSumm := fun args H => match args, H with
 | [.int .i64 n], [] => .ret (.tup [.int .u32 (lbV n).1, .int .i64 (lbV n).2]) []
 | _, _ => .fail
def nod_s : CSumm := fun args H => match args, H with
 | [.int .u32 n], [] => .ret (.tup [.int .i64 (nodV n).1, .bool (nodV n).2]) []
 | _, _ => .fail
def rm_s : CSumm := fun args H => match args, H with
 | [.int .i64 n], [] => .ret (.tup [.int .u64 (rmV n).1, .int .i64 (rmV n).2]) []
 | _, _ => .fail
def rn_s : CSumm := fun args H => match args, H with
 | [.int .u64 n], [] => .ret (.tup [.int .i64 (rnV n).1, .bool (rnV n).2]) []
 | _, _ => .fail
def lbT (n : Int) : CTree := bif orB (decide (n < 0)) (decide (n ≥ 32)) then .ret (.tup [.int .u32 0, .int .i64 2]) [] else .ret (.tup [.int .u32 (w32 (w32 (184483840 + w32 n) + 1)), .int .i64 0]) []
def nodT (n : Int) : CTree := bif orB (decide (n ≤ 184483840)) (decide (n > 184483872)) then .ret (.tup [.int .i64 0, .bool false]) [] else .ret (.tup [.int .i64 (w64 (w32 (w32 (n - 184483840) - 1))), .bool true]) []
def rmT (n : Int) : CTree := bif orB (decide (n < 0)) (decide (n ≥ 32)) then .ret (.tup [.int .u64 0, .int .i64 2]) [] else .ret (.tup [.int .u64 (IntKind.u64.wrap (2199023255552 + IntKind.u64.wrap n)), .int .i64 0]) []
def rnT (n : Int) : CTree := bif orB (decide (n < 2199023255552)) (decide (n ≥ 2199023255584)) then .ret (.tup [.int .i64 0, .bool false]) [] else .ret (.tup [.int .i64 (w64 (IntKind.u64.wrap (n - 2199023255552))), .bool true]) []
theorem lb_t (n : Int) : opn (tbl []) Tryz.f5 [.int .i64 n] [] = lbT n := by kernel_rfl
theorem lbr_t (n : Int) : opn (tbl []) Tryz.f6 [.int .i64 n] [] = lbT n := by kernel_rfl
theorem nod_t (n : Int) : opn (tbl []) Tryz.f7 [.int .u32 n] [] = nodT n := by kernel_rfl
theorem ndr_t (n : Int) : opn (tbl []) Tryz.f8 [.int .u32 n] [] = nodT n := by kernel_rfl
theorem rm_t (n : Int) : opn (tbl []) Tryz.f9 [.int .i64 n] [] = rmT n := by kernel_rfl
theorem rmr_t (n : Int) : opn (tbl []) Tryz.f10 [.int .i64 n] [] = rmT n := by kernel_rfl
theorem rn_t (n : Int) : opn (tbl []) Tryz.f11 [.int .u64 n] [] = rnT n := by kernel_rfl
theorem rnr_t (n : Int) : opn (tbl []) Tryz.f12 [.int .u64 n] [] = rnT n := by kernel_rfl
theorem lbT_v (n : Int) : crun (lbT n) = crun (.ret (.tup [.int .u32 (lbV n).1, .int .i64 (lbV n).2]) []) := by
 unfold lbT lbV; cases orB (decide (n < 0)) (decide (n ≥ 32)) <;> rfl
theorem nodT_v (n : Int) : crun (nodT n) = crun (.ret (.tup [.int .i64 (nodV n).1, .bool (nodV n).2]) []) := by
 unfold nodT nodV; cases orB (decide (n ≤ 184483840)) (decide (n > 184483872)) <;> rfl
theorem rmT_v (n : Int) : crun (rmT n) = crun (.ret (.tup [.int .u64 (rmV n).1, .int .i64 (rmV n).2]) []) := by
 unfold rmT rmV; cases orB (decide (n < 0)) (decide (n ≥ 32)) <;> rfl
theorem rnT_v (n : Int) : crun (rnT n) = crun (.ret (.tup [.int .i64 (rnV n).1, .bool (rnV n).2]) []) := by
 unfold rnT rnV; cases orB (decide (n < 2199023255552)) (decide (n ≥ 2199023255584)) <;> rfl
theorem lb_k : Known Tryz.prog 5 lb_s := (openKnown ok0 Tryz.func5 rfl).weak (by
 intro args H v ups h
 unfold lb_s at h
 split at h
 · rw [← h]; exact (congrArg crun (lb_t _)).trans (lbT_v _)
 · cases h)
theorem lbr_k : Known Tryz.prog 6 lb_s := (openKnown ok0 Tryz.func6 rfl).weak (by
 intro args H v ups h
 unfold lb_s at h
 split at h
 · rw [← h]; exact (congrArg crun (lbr_t _)).trans (lbT_v _)
 · cases h)
theorem nod_k : Known Tryz.prog 7 nod_s := (openKnown ok0 Tryz.func7 rfl).weak (by
 intro args H v ups h
 unfold nod_s at h
 split at h
 · rw [← h]; exact (congrArg crun (nod_t _)).trans (nodT_v _)
 · cases h)
theorem ndr_k : Known Tryz.prog 8 nod_s := (openKnown ok0 Tryz.func8 rfl).weak (by
 intro args H v ups h
 unfold nod_s at h
 split at h
 · rw [← h]; exact (congrArg crun (ndr_t _)).trans (nodT_v _)
 · cases h)
theorem rm_k : Known Tryz.prog 9 rm_s := (openKnown ok0 Tryz.func9 rfl).weak (by
 intro args H v ups h
 unfold rm_s at h
 split at h
 · rw [← h]; exact (congrArg crun (rm_t _)).trans (rmT_v _)
 · cases h)
theorem rmr_k : Known Tryz.prog 10 rm_s := (openKnown ok0 Tryz.func10 rfl).weak (by
 intro args H v ups h
 unfold rm_s at h
 split at h
 · rw [← h]; exact (congrArg crun (rmr_t _)).trans (rmT_v _)
 · cases h)
theorem rn_k : Known Tryz.prog 11 rn_s := (openKnown ok0 Tryz.func11 rfl).weak (by
 intro args H v ups h
 unfold rn_s at h
 split at h
 · rw [← h]; exact (congrArg crun (rn_t _)).trans (rnT_v _)
 · cases h)
theorem rnr_k : Known Tryz.prog 12 rn_s := (openKnown ok0 Tryz.func12 rfl).weak (by
 intro args H v ups h
 unfold rn_s at h
 split at h
 · rw [← h]; exact (congrArg crun (rnr_t _)).trans (rnT_v _)
 · cases h)
/- The reference's mask. -/
def mskR (n : Int) : Int := IntKind.u32.wrap ((BitVec.ofInt IntKind.u32.bits (if IntKind.u32.signed = true then -1 else IntKind.u32.max) ^^^ BitVec.ofInt IntKind.u32.bits (IntKind.u32.wrap (IntKind.u32.wrap (1 * 2 ^ min (w64 (32 - n)).toNat IntKind.u32.bits) - 1))).toNat : Nat)
theorem mskr_t (n : Int) : opn (tbl []) Tryz.f36 [.int .i64 n] [] = bif decide (w64 (32 - n) < 0) then .fail else .ret (.int .u32 (mskR n)) [] := by kernel_rfl
theorem msk_all : ((List.range 33).all fun k => decide (mskR ((k : Nat) : Int) = mskI ((k : Nat) : Int))) = true := by kernel_rfl
theorem msk_eq {l : Int} (h0 : 0 ≤ l) (h1 : l ≤ 32) : mskR l = mskI l := by
 obtain ⟨k, rfl⟩ := Int.eq_ofNat_of_zero_le h0
 exact of_decide_eq_true (List.all_eq_true.1 msk_all k (List.mem_range.2 (by omega)))
theorem mskr_k : Known Tryz.prog 36 msk_s := (openKnown ok0 Tryz.func36 rfl).weak (by
 intro args H v ups h
 unfold msk_s at h
 split at h
 · rename_i l
   rw [crun_ite] at h
   cases hv : vld l with
   | false => rw [hv] at h; cases h
   | true =>
    rw [hv, cond_true] at h
    obtain ⟨h0, h1⟩ := (vld_iff l).1 hv
    refine (congrArg crun (mskr_t l)).trans ?_
    rw [decide_eq_false (by rw [show w64 (32 - l) = 32 - l from w64_id (by omega) (by omega)]; omega), msk_eq h0 h1]
    exact h
 · cases h)
theorem clnr_t (ip l : Int) : opn (tbl [(36, msk_s)]) Tryz.f16 [.agg [.int .u32 ip, .int .i64 l]] [] = bif !vld l then .ret (.tup [.agg [.int .u32 0, .int .i64 0], .int .i64 2]) [] else
 bif vld l then .ret (.tup [.agg [.int .u32 (clnI ip l), .int .i64 l], .int .i64 0]) [] else .fail := by kernel_rfl
theorem clnr_k : Known Tryz.prog 16 cln_s := (openKnown (tbl_cons mskr_k ok0) Tryz.func16 rfl).weak (by
 intro args H v ups h
 unfold cln_s at h
 split at h
 · rename_i ip l
   refine (congrArg crun (clnr_t ip l)).trans ?_
   rw [← h]
   unfold clnV
   cases vld l <;> rfl
 · cases h)
end Go.Proofs.YtjjfggahllnafaaGreatDoor
/- Addresses and their bytes: arithmetic. -/
namespace Go.Proofs.YtjjfggahllnafaaGreatDoor
open Go.Am
set_option maxRecDepth 100000
theorem ofInt_nat {k n : Nat} (h : n < 2 ^ k) : (BitVec.ofInt k (n : Int)).toNat = n := by
 rw [BitVec.toNat_ofInt]
 have h1 : ((n : Int) % ((2 ^ k : Nat) : Int)).toNat = n % 2 ^ k := by
  rw [← Int.natCast_emod]; rfl
 rw [h1, Nat.mod_eq_of_lt h]
theorem or_nat {a b : Nat} (hb : b < 256) : (a * 256) ||| b = a * 256 + b := by
 have := Nat.two_pow_add_eq_or_of_lt (i := 8) (b := b) (by omega) a
 rw [Nat.mul_comm a 256]
 exact this.symm
theorem shO32 {a b : Int} (a0 : 0 ≤ a) (b0 : 0 ≤ b) (b1 : b < 256) (h : a * 256 + b < 4294967296) : shO .u32 a b = a * 256 + b := by
 obtain ⟨x, rfl⟩ := Int.eq_ofNat_of_zero_le a0
 obtain ⟨y, rfl⟩ := Int.eq_ofNat_of_zero_le b0
 have w : ∀ n : Int, 0 ≤ n → n < 4294967296 → IntKind.u32.wrap n = n := fun n h0 h1 => by simp [IntKind.wrap, IntKind.bits, IntKind.signed]; omega
 unfold shO orI
 rw [w ((x : Int) * 256) (by omega) (by omega), w (y : Int) (by omega) (by omega), BitVec.toNat_or]
 have e1 : (BitVec.ofInt IntKind.u32.bits ((x : Int) * 256)).toNat = x * 256 := by
  rw [show ((x : Int) * 256) = ((x * 256 : Nat) : Int) by omega]
  exact ofInt_nat (k := 32) (by omega)
 have e2 : (BitVec.ofInt IntKind.u32.bits (y : Int)).toNat = y := ofInt_nat (k := 32) (by omega)
 rw [e1, e2, or_nat (by omega), w _ (by omega) (by omega)]
 omega
theorem shO64 {a b : Int} (a0 : 0 ≤ a) (b0 : 0 ≤ b) (b1 : b < 256) (h : a * 256 + b < 18446744073709551616) : shO .u64 a b = a * 256 + b := by
 obtain ⟨x, rfl⟩ := Int.eq_ofNat_of_zero_le a0
 obtain ⟨y, rfl⟩ := Int.eq_ofNat_of_zero_le b0
 have w : ∀ n : Int, 0 ≤ n → n < 18446744073709551616 → IntKind.u64.wrap n = n := fun n h0 h1 => by simp [IntKind.wrap, IntKind.bits, IntKind.signed]; omega
 unfold shO orI
 rw [w ((x : Int) * 256) (by omega) (by omega), w (y : Int) (by omega) (by omega), BitVec.toNat_or]
 have e1 : (BitVec.ofInt IntKind.u64.bits ((x : Int) * 256)).toNat = x * 256 := by
  rw [show ((x : Int) * 256) = ((x * 256 : Nat) : Int) by omega]
  exact ofInt_nat (k := 64) (by omega)
 have e2 : (BitVec.ofInt IntKind.u64.bits (y : Int)).toNat = y := ofInt_nat (k := 64) (by omega)
 rw [e1, e2, or_nat (by omega), w _ (by omega) (by omega)]
 omega
theorem ipO_v {a b c d : Int} (a0 : 0 ≤ a) (a1 : a ≤ 255) (b0 : 0 ≤ b) (b1 : b ≤ 255) (c0 : 0 ≤ c) (c1 : c ≤ 255) (d0 : 0 ≤ d) (d1 : d ≤ 255) : ipO [a, b, c, d] = ((a * 256 + b) * 256 + c) * 256 + d := by
 have e : ipO [a, b, c, d] = shO .u32 (shO .u32 (shO .u32 (shO .u32 0 a) b) c) d := rfl
 rw [e, shO32 (a := 0) (by omega) a0 (by omega) (by omega), shO32 (by omega) b0 (by omega) (by omega), shO32 (by omega) c0 (by omega) (by omega), shO32 (by omega) d0 (by omega) (by omega)]
 omega
theorem macO_v {a b c d e f : Int} (a0 : 0 ≤ a) (a1 : a ≤ 255) (b0 : 0 ≤ b) (b1 : b ≤ 255) (c0 : 0 ≤ c) (c1 : c ≤ 255) (d0 : 0 ≤ d) (d1 : d ≤ 255) (e0 : 0 ≤ e) (e1 : e ≤ 255) (f0 : 0 ≤ f) (f1 : f ≤ 255) :
  macO [a, b, c, d, e, f] = ((((a * 256 + b) * 256 + c) * 256 + d) * 256 + e) * 256 + f := by
 have h : macO [a, b, c, d, e, f] = shO .u64 (shO .u64 (shO .u64 (shO .u64 (shO .u64 (shO .u64 0 a) b) c) d) e) f := rfl
 rw [h, shO64 (a := 0) (by omega) a0 (by omega) (by omega), shO64 (by omega) b0 (by omega) (by omega), shO64 (by omega) c0 (by omega) (by omega), shO64 (by omega) d0 (by omega) (by omega), shO64 (by omega) e0 (by omega) (by omega), shO64 (by omega) f0 (by omega) (by omega)]
 omega
theorem wu64_id {n : Int} (h0 : 0 ≤ n) (h1 : n < 18446744073709551616) : wu64 n = n := by
 show IntKind.u64.wrap n = n
 simp [IntKind.wrap, IntKind.bits, IntKind.signed]; omega
theorem octI_rng (ip : Int) (k : Nat) : 0 ≤ octI ip k ∧ octI ip k ≤ 255 := by
 unfold octI andI
 have hle : (BitVec.ofInt IntKind.u32.bits (ip.fdiv (2 ^ k)) &&& BitVec.ofInt IntKind.u32.bits 255).toNat ≤ 255 := by
  rw [BitVec.toNat_and]
  have : (BitVec.ofInt IntKind.u32.bits 255).toNat = 255 := by decide
  rw [this]
  exact Nat.and_le_right
 generalize (BitVec.ofInt IntKind.u32.bits (ip.fdiv (2 ^ k)) &&& BitVec.ofInt IntKind.u32.bits 255).toNat = n at *
 have e : IntKind.u32.wrap (n : Int) = n := by simp [IntKind.wrap, IntKind.bits, IntKind.signed]; omega
 rw [e, wu64_id (by omega) (by omega)]
 omega
theorem octOk_all (ip : Int) : octOk ip := fun k => octI_rng ip k
theorem octI_v {ip : Int} (h0 : 0 ≤ ip) (h1 : ip < 4294967296) (k : Nat) : octI ip k = ip / 2 ^ k % 256 := by
 obtain ⟨n, rfl⟩ := Int.eq_ofNat_of_zero_le h0
 unfold octI andI
 have ef : ((n : Nat) : Int).fdiv (2 ^ k) = ((n / 2 ^ k : Nat) : Int) := by
  rw [Int.fdiv_eq_ediv_of_nonneg _ (by exact Int.pow_nonneg (by decide))]
  rw [Int.natCast_ediv]
  simp
 have hlt : n / 2 ^ k < 2 ^ 32 := Nat.lt_of_le_of_lt (Nat.div_le_self _ _) (by omega)
 rw [ef, BitVec.toNat_and]
 have e1 : (BitVec.ofInt IntKind.u32.bits ((n / 2 ^ k : Nat) : Int)).toNat = n / 2 ^ k := ofInt_nat (k := 32) hlt
 have e2 : (BitVec.ofInt IntKind.u32.bits 255).toNat = 2 ^ 8 - 1 := by decide
 rw [e1, e2, Nat.and_two_pow_sub_one_eq_mod]
 have hm : n / 2 ^ k % 2 ^ 8 < 256 := Nat.mod_lt _ (by decide)
 have e : IntKind.u32.wrap ((n / 2 ^ k % 2 ^ 8 : Nat) : Int) = ((n / 2 ^ k % 2 ^ 8 : Nat) : Int) := by simp [IntKind.wrap, IntKind.bits, IntKind.signed]; omega
 rw [e, wu64_id (by omega) (by omega)]
 rw [Int.natCast_emod, Int.natCast_ediv]
 simp
theorem oct24 {ip : Int} (h0 : 0 ≤ ip) (h1 : ip < 4294967296) : octI ip 24 = ip / 16777216 % 256 ∧ octI ip 16 = ip / 65536 % 256 ∧ octI ip 8 = ip / 256 % 256 ∧ octI ip 0 = ip % 256 := by
 have e24 : (2 : Int) ^ 24 = 16777216 := by decide
 have e16 : (2 : Int) ^ 16 = 65536 := by decide
 have e8 : (2 : Int) ^ 8 = 256 := by decide
 have e0 : (2 : Int) ^ 0 = 1 := by decide
 rw [octI_v h0 h1, octI_v h0 h1, octI_v h0 h1, octI_v h0 h1, e24, e16, e8, e0, Int.ediv_one]
 exact ⟨rfl, rfl, rfl, rfl⟩
end Go.Proofs.YtjjfggahllnafaaGreatDoor
