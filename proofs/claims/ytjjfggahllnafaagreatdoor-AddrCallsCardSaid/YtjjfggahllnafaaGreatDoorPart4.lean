/- AddrCalls: contains, covers, multicast, import. -/
import Derived.Test.YtjjfggahllnafaaGreatDoorPart3
set_option linter.unusedVariables false
set_option linter.unusedSimpArgs false
namespace Go.Proofs.YtjjfggahllnafaaGreatDoor
open Go.Am
set_option maxRecDepth 100000
def xorI (a b : Int) : Int := IntKind.u32.wrap ((BitVec.ofInt IntKind.u32.bits a ^^^ BitVec.ofInt IntKind.u32.bits b).toNat : Nat)
def conV (a b c : Int) : Bool := bif vld b then andI .u32 a (mskI b) == andI .u32 c (mskI b) else false
theorem con_t (a b c : Int) : opn (tbl [(34, msk_s)]) Tryz.f21 [px a b, .int .u32 c] [] = bif vld b then bif vld b then .ret (.bool (andI .u32 (xorI a c) (mskI b) == 0)) [] else .fail else .ret (.bool false) [] := by kernel_rfl
theorem conr_t (a b c : Int) : opn (tbl [(36, msk_s)]) Tryz.f22 [px a b, .int .u32 c] [] = bif vld b then bif vld b then bif vld b then .ret (.bool (andI .u32 a (mskI b) == andI .u32 c (mskI b))) [] else .fail else .fail else .ret (.bool false) [] := by kernel_rfl
theorem wrap32 (X : BitVec 32) : IntKind.u32.wrap (X.toNat : Int) = (X.toNat : Int) := by
 have := X.isLt
 simp [IntKind.wrap, IntKind.bits, IntKind.signed]; omega
theorem bv_xor (A C M : BitVec 32) : ((A ^^^ C) &&& M = 0#32) ↔ (A &&& M = C &&& M) := by
 constructor
 · intro h
   apply BitVec.eq_of_getLsbD_eq
   intro i hi
   have := congrArg (fun x => x.getLsbD i) h
   simp only [BitVec.getLsbD_and, BitVec.getLsbD_xor, BitVec.getLsbD_zero] at this ⊢
   cases hA : A.getLsbD i <;> cases hC : C.getLsbD i <;> cases hM : M.getLsbD i <;> simp_all
 · intro h
   apply BitVec.eq_of_getLsbD_eq
   intro i hi
   have := congrArg (fun x => x.getLsbD i) h
   simp only [BitVec.getLsbD_and, BitVec.getLsbD_xor, BitVec.getLsbD_zero] at this ⊢
   cases hA : A.getLsbD i <;> cases hC : C.getLsbD i <;> cases hM : M.getLsbD i <;> simp_all
theorem con_eq (a c m : Int) : (andI .u32 (xorI a c) m == 0) = (andI .u32 a m == andI .u32 c m) := by
 have h1 : xorI a c = ((BitVec.ofInt 32 a ^^^ BitVec.ofInt 32 c).toNat : Int) := wrap32 _
 have h2 : ∀ x, andI .u32 x m = ((BitVec.ofInt 32 x &&& BitVec.ofInt 32 m).toNat : Int) := fun x => wrap32 _
 rw [h2, h2, h2, h1, Bool.eq_iff_iff, beq_iff_eq, beq_iff_eq]
 have h3 : BitVec.ofInt 32 ((BitVec.ofInt 32 a ^^^ BitVec.ofInt 32 c).toNat : Int) = BitVec.ofInt 32 a ^^^ BitVec.ofInt 32 c := by
  rw [BitVec.ofInt_natCast, BitVec.ofNat_toNat, BitVec.setWidth_eq]
 rw [h3]
 generalize BitVec.ofInt 32 a = A
 generalize BitVec.ofInt 32 c = C
 generalize BitVec.ofInt 32 m = M
 rw [show ((A &&& M).toNat : Int) = ((C &&& M).toNat : Int) ↔ A &&& M = C &&& M by rw [Int.ofNat_inj]; exact BitVec.toNat_inj, ← bv_xor]
 rw [show (0 : Int) = (((0#32 : BitVec 32)).toNat : Int) from rfl, Int.ofNat_inj]
 exact BitVec.toNat_inj
def con_s : CSumm := fun args H => match args, H with
 | [.agg [.int .u32 a, .int .i64 b], .int .u32 c], [] => .ret (.bool (conV a b c)) []
 | _, _ => .fail
theorem con_k : Known Tryz.prog 21 con_s := (openKnown (tbl_cons msk_k ok0) Tryz.func21 rfl).weak (by
 intro args H v ups h
 unfold con_s at h
 split at h
 · rename_i a b c
   rw [← h]
   refine (congrArg crun (con_t a b c)).trans ?_
   rw [con_eq]
   unfold conV
   cases vld b <;> rfl
 · cases h)
theorem conr_k : Known Tryz.prog 22 con_s := (openKnown (tbl_cons mskr_k ok0) Tryz.func22 rfl).weak (by
 intro args H v ups h
 unfold con_s at h
 split at h
 · rename_i a b c
   rw [← h]
   refine (congrArg crun (conr_t a b c)).trans ?_
   unfold conV
   cases vld b <;> rfl
 · cases h)
end Go.Proofs.YtjjfggahllnafaaGreatDoor
/- AddrCalls: covers, multicast, import. -/
namespace Go.Proofs.YtjjfggahllnafaaGreatDoor
open Go.Am
set_option maxRecDepth 100000
def covV (a b c d : Int) : Bool := bif (bif (bif vld b then vld d else false) then decide (b ≤ d) else false) then conV a b c else false
theorem cov_t (a b c d : Int) : opn (tbl [(21, con_s)]) Tryz.f23 [px a b, px c d] [] = .ret (.bool (covV a b c d)) [] := by kernel_rfl
theorem covr_t (a b c d : Int) : opn (tbl [(22, con_s)]) Tryz.f24 [px a b, px c d] [] = .ret (.bool (covV a b c d)) [] := by kernel_rfl
def cov_s : CSumm := fun args H => match args, H with
 | [.agg [.int .u32 a, .int .i64 b], .agg [.int .u32 c, .int .i64 d]], [] => .ret (.bool (covV a b c d)) []
 | _, _ => .fail
theorem cov_k : Known Tryz.prog 23 cov_s := (openKnown (tbl_cons con_k ok0) Tryz.func23 rfl).weak (by
 intro args H v ups h
 unfold cov_s at h
 split at h
 · rw [← h]; exact congrArg crun (cov_t ..)
 · cases h)
theorem covr_k : Known Tryz.prog 24 cov_s := (openKnown (tbl_cons conr_k ok0) Tryz.func24 rfl).weak (by
 intro args H v ups h
 unfold cov_s at h
 split at h
 · rw [← h]; exact congrArg crun (covr_t ..)
 · cases h)
/- Multicast. -/
def mcI (n : Int) : Int := andI .u64 (n.fdiv (2 ^ 40)) 1
theorem mc_t (n : Int) : opn (tbl []) Tryz.f13 [.int .u64 n] [] = bif decide (n ≤ 281474976710655) then .ret (.bool (mcI n != 0)) [] else .ret (.bool false) [] := by kernel_rfl
theorem mcr_t (n : Int) : opn (tbl []) Tryz.f14 [.int .u64 n] [] = bif decide (n ≤ 281474976710655) then .ret (.bool (mcI n == 1)) [] else .ret (.bool false) [] := by kernel_rfl
theorem mc_two (n : Int) : (mcI n != 0) = (mcI n == 1) := by
 have h : mcI n = 0 ∨ mcI n = 1 := by
  unfold mcI andI
  generalize n.fdiv (2 ^ 40) = x
  have h2 : (BitVec.ofInt IntKind.u64.bits x &&& BitVec.ofInt IntKind.u64.bits 1).toNat = (BitVec.ofInt 64 x).toNat % 2 := by
   show (BitVec.ofInt 64 x &&& 1#64).toNat = _
   rw [BitVec.toNat_and]
   exact Nat.and_one_is_mod _
  rw [h2]
  rcases Nat.mod_two_eq_zero_or_one (BitVec.ofInt 64 x).toNat with e | e <;> rw [e]
  · exact .inl rfl
  · exact .inr rfl
 rcases h with h | h <;> rw [h] <;> rfl
def mcV (n : Int) : Bool := bif decide (n ≤ 281474976710655) then mcI n == 1 else false
def mc_s : CSumm := fun args H => match args, H with
 | [.int .u64 n], [] => .ret (.bool (mcV n)) []
 | _, _ => .fail
theorem mc_k : Known Tryz.prog 13 mc_s := (openKnown ok0 Tryz.func13 rfl).weak (by
 intro args H v ups h
 unfold mc_s at h
 split at h
 · rename_i n
   rw [← h]
   refine (congrArg crun (mc_t n)).trans ?_
   rw [mc_two]
   unfold mcV
   cases decide (n ≤ 281474976710655) <;> rfl
 · cases h)
theorem mcr_k : Known Tryz.prog 14 mc_s := (openKnown ok0 Tryz.func14 rfl).weak (by
 intro args H v ups h
 unfold mc_s at h
 split at h
 · rename_i n
   rw [← h]
   refine (congrArg crun (mcr_t n)).trans ?_
   unfold mcV
   cases decide (n ≤ 281474976710655) <;> rfl
 · cases h)
/- Import. -/
def plO (a b : Int) : Int := IntKind.u64.wrap (IntKind.u64.wrap (a * 256) + IntKind.u64.wrap b)
def plL (l : List Int) : Int := plO (plO (plO (plO (plO (plO 0 (l.getD 1 0)) (l.getD 2 0)) (l.getD 3 0)) (l.getD 4 0)) (l.getD 5 0)) (l.getD 6 0)
theorem im_t (a b c d e f g h i j : Int) : opn (tbl []) Tryz.f29 [es8 [a, b, c, d, e, f, g, h, i, j]] [] = .ret (.int .u64 (macO [b, c, d, e, f, g])) [] := by kernel_rfl
theorem imr_t (a b c d e f g h i j : Int) : opn (tbl []) Tryz.f30 [es8 [a, b, c, d, e, f, g, h, i, j]] [] = .ret (.int .u64 (plL [a, b, c, d, e, f, g, h, i, j])) [] := by kernel_rfl
theorem plO_v {a b : Int} (h0 : 0 ≤ a) (b0 : 0 ≤ b) (h : a * 256 + b < 18446744073709551616) : plO a b = a * 256 + b := by
 unfold plO
 rw [show IntKind.u64.wrap (a * 256) = a * 256 from wu64_id (by omega) (by omega), show IntKind.u64.wrap b = b from wu64_id (by omega) (by omega)]
 exact wu64_id (by omega) (by omega)
noncomputable def im_s : CSumm := fun args H => match args, H with
 | [.agg [.int .u8 a, .int .u8 b, .int .u8 c, .int .u8 d, .int .u8 e, .int .u8 f, .int .u8 g, .int .u8 h, .int .u8 i, .int .u8 j]], [] =>
  .ite (dec (bytesI [a, b, c, d, e, f, g, h, i, j])) (.ret (.int .u64 (macO [b, c, d, e, f, g])) []) .fail
 | _, _ => .fail
theorem im_k : Known Tryz.prog 29 im_s := (openKnown ok0 Tryz.func29 rfl).weak (by
 intro args H v ups hh
 unfold im_s at hh
 split at hh
 · rw [crun_ite, cond_eq_ite] at hh
   split at hh
   · rw [← hh]; exact congrArg crun (im_t ..)
   · cases hh
 · cases hh)
theorem imr_k : Known Tryz.prog 30 im_s := (openKnown ok0 Tryz.func30 rfl).weak (by
 intro args H v ups hh
 unfold im_s at hh
 split at hh
 · rename_i a b c d e f g h i j
   rw [crun_ite, cond_eq_ite] at hh
   split at hh
   · rename_i hc
     have hb := dec_iff.1 hc
     obtain ⟨b0, b1⟩ := hb b (by simp); obtain ⟨c0, c1⟩ := hb c (by simp); obtain ⟨d0, d1⟩ := hb d (by simp)
     obtain ⟨e0, e1⟩ := hb e (by simp); obtain ⟨f0, f1⟩ := hb f (by simp); obtain ⟨g0, g1⟩ := hb g (by simp)
     rw [← hh]
     refine (congrArg crun (imr_t ..)).trans ?_
     rw [macO_v b0 b1 c0 c1 d0 d1 e0 e1 f0 f1 g0 g1]
     show crun (.ret (.int .u64 (plO (plO (plO (plO (plO (plO 0 b) c) d) e) f) g)) []) = _
     rw [plO_v (a := 0) (b := b) (by omega) b0 (by omega), plO_v (b := c) (by omega) c0 (by omega), plO_v (b := d) (by omega) d0 (by omega), plO_v (b := e) (by omega) e0 (by omega), plO_v (b := f) (by omega) f0 (by omega), plO_v (b := g) (by omega) g0 (by omega), show (0 : Int) * 256 + b = b by omega]
   · cases hh
 · cases hh)
end Go.Proofs.YtjjfggahllnafaaGreatDoor
/- AddrCalls: the reference's group, digit, Digits: by closed enumeration. -/
namespace Go.Proofs.YtjjfggahllnafaaGreatDoor
open Go.Am
set_option maxRecDepth 100000
theorem gp_all : ((List.range 256).all fun k => eqR (.str [hx (hiD ((k : Nat) : Int)), hx (loD ((k : Nat) : Int))]) [] (crun (opn (tbl []) Tryz.f78 [.int .u8 ((k : Nat) : Int)] []))) = true := by kernel_rfl
noncomputable def gp_s : CSumm := fun args H => match args, H with
 | [.int .u8 v], [] => .ite (decide (0 ≤ v ∧ v ≤ 255)) (.ret (.str [hx (hiD v), hx (loD v)]) []) .fail
 | _, _ => .fail
theorem gp_k : Known Tryz.prog 78 gp_s := (openKnown ok0 Tryz.func78 rfl).weak (by
 intro args H v ups h
 unfold gp_s at h
 split at h
 · rename_i n
   rw [crun_ite, cond_eq_ite] at h
   split at h
   · rename_i hc
     obtain ⟨h0, h1⟩ := of_decide_eq_true hc
     have := List.all_eq_true.1 gp_all n.toNat (List.mem_range.2 (by omega))
     rw [show ((n.toNat : Nat) : Int) = n by omega] at this
     exact (eqR_eq this).trans h
   · cases h
 · cases h)
def dgR (c : Int) : Int := bif decide (dgt c 16 < 16) then dgt c 16 else -1
theorem dr_all : ((List.range 256).all fun k => eqR (.int .i64 (dgR ((k : Nat) : Int))) [] (crun (opn (tbl []) Tryz.f82 [.int .u8 ((k : Nat) : Int)] []))) = true := by kernel_rfl
noncomputable def dr_s : CSumm := fun args H => match args, H with
 | [.int .u8 v], [] => .ite (decide (0 ≤ v ∧ v ≤ 255)) (.ret (.int .i64 (dgR v)) []) .fail
 | _, _ => .fail
theorem dr_k : Known Tryz.prog 82 dr_s := (openKnown ok0 Tryz.func82 rfl).weak (by
 intro args H v ups h
 unfold dr_s at h
 split at h
 · rename_i n
   rw [crun_ite, cond_eq_ite] at h
   split at h
   · rename_i hc
     obtain ⟨h0, h1⟩ := of_decide_eq_true hc
     have := List.all_eq_true.1 dr_all n.toNat (List.mem_range.2 (by omega))
     rw [show ((n.toNat : Nat) : Int) = n by omega] at this
     exact (eqR_eq this).trans h
   · cases h
 · cases h)
theorem ds_all : ((List.range 256).all fun k => eqR (.str (dcB ((k : Nat) : Int))) [] (crun (opn (tbl []) Tryz.f66 [.int .i64 ((k : Nat) : Int)] []))) = true := by kernel_rfl
noncomputable def ds_s : CSumm := fun args H => match args, H with
 | [.int .i64 v], [] => .ite (decide (0 ≤ v ∧ v ≤ 255)) (.ret (.str (dcB v)) []) .fail
 | _, _ => .fail
theorem ds_k : Known Tryz.prog 66 ds_s := (openKnown ok0 Tryz.func66 rfl).weak (by
 intro args H v ups h
 unfold ds_s at h
 split at h
 · rename_i n
   rw [crun_ite, cond_eq_ite] at h
   split at h
   · rename_i hc
     obtain ⟨h0, h1⟩ := of_decide_eq_true hc
     have := List.all_eq_true.1 ds_all n.toNat (List.mem_range.2 (by omega))
     rw [show ((n.toNat : Nat) : Int) = n by omega] at this
     exact (eqR_eq this).trans h
   · cases h
 · cases h)
end Go.Proofs.YtjjfggahllnafaaGreatDoor
/- AddrCalls: the reference's texts. -/
namespace Go.Proofs.YtjjfggahllnafaaGreatDoor
open Go.Am
set_option maxRecDepth 100000
def rgC : List Int → CTree → CTree
 | [], K => K
 | x :: r, K => bif decide (0 ≤ x ∧ x ≤ 255) then rgC r K else .fail
theorem rgC_ok {K : CTree} : ∀ {l : List Int}, bytesI l → rgC l K = K
 | [], _ => rfl
 | x :: r, h => by
  unfold rgC
  rw [decide_eq_true (h x (by simp)), cond_true]
  exact rgC_ok fun y hy => h y (by simp [hy])
theorem esx_t (a b c d e f g h i j : Int) : opn (tbl [(78, gp_s)]) Tryz.f50 [es8 [a, b, c, d, e, f, g, h, i, j]] [] = rgC [a, b, c, d, e, f, g, h, i, j] (.ret (.str (pairsL [a, b, c, d, e, f, g, h, i, j])) []) := by kernel_rfl
theorem max_t (m : Int) : opn (tbl [(78, gp_s)]) Tryz.f44 [.int .u64 m] [] = bif decide (m > 281474976710655) then .ret (.tup [.str [], .int .i64 2]) [] else rgC (macL m) (.ret (.tup [.str (pairsL (macL m)), .int .i64 0]) []) := by kernel_rfl
def adC (a b : List UInt8) (K : List UInt8 → CTree) : CTree := bif decide (a.length + b.length ≤ 9223372036854775807) then K (a ++ b) else .fail
def dsC (v : Int) (K : List UInt8 → CTree) : CTree := bif decide (0 ≤ v ∧ v ≤ 255) then K (dcB v) else .fail
def octR (ip : Int) (k : Nat) : Int := w64 (andI .u32 (ip.fdiv (2 ^ k)) 255)
def oct3 (ip : Int) : Int := w64 (ip.fdiv (2 ^ 24))
def and0 (ip : Int) : Int := w64 (andI .u32 ip 255)
theorem ipx_t (ip : Int) : opn (tbl [(66, ds_s)]) Tryz.f48 [.int .u32 ip] [] = dsC (oct3 ip) fun a => adC a [46] fun a => dsC (octR ip 16) fun b => adC a b fun a => adC a [46] fun a => dsC (octR ip 8) fun b => adC a b fun a => adC a [46] fun a => dsC (and0 ip) fun b => adC a b fun a => .ret (.str a) [] := by kernel_rfl
end Go.Proofs.YtjjfggahllnafaaGreatDoor
/- AddrCalls: the reference's texts, told. -/
namespace Go.Proofs.YtjjfggahllnafaaGreatDoor
open Go.Am
set_option maxRecDepth 100000
theorem esx_k : Known Tryz.prog 50 esit_s := (openKnown (tbl_cons gp_k ok0) Tryz.func50 rfl).weak (by
 intro args H v ups hh
 unfold esit_s at hh
 split at hh
 · rename_i a b c d e f g h i j
   rw [crun_ite] at hh
   cases hc : dec (bytesI [a, b, c, d, e, f, g, h, i, j]) with
   | false => rw [hc] at hh; cases hh
   | true =>
    rw [hc, cond_true] at hh
    refine (congrArg crun (esx_t a b c d e f g h i j)).trans ?_
    rw [rgC_ok (dec_iff.1 hc)]
    exact hh
 · cases hh)
theorem max_k : Known Tryz.prog 44 mact_s := (openKnown (tbl_cons gp_k ok0) Tryz.func44 rfl).weak (by
 intro args H v ups h
 unfold mact_s at h
 split at h
 · rename_i m
   refine (congrArg crun (max_t m)).trans ?_
   rw [rgC_ok (macL_bytes m), ← h]
   unfold mactV
   cases decide (m > 281474976710655) <;> rfl
 · cases h)
theorem adC_ok {a b : List UInt8} {K : List UInt8 → CTree} (h : a.length + b.length ≤ 9223372036854775807) : adC a b K = K (a ++ b) := by
 unfold adC; rw [decide_eq_true h, cond_true]
theorem dsC_ok {v : Int} {K : List UInt8 → CTree} (h0 : 0 ≤ v) (h1 : v ≤ 255) : dsC v K = K (dcB v) := by
 unfold dsC; rw [decide_eq_true ⟨h0, h1⟩, cond_true]
theorem and_rng (x : Int) : 0 ≤ andI .u32 x 255 ∧ andI .u32 x 255 ≤ 255 := by
 unfold andI
 have hle : (BitVec.ofInt IntKind.u32.bits x &&& BitVec.ofInt IntKind.u32.bits 255).toNat ≤ 255 := by
  rw [BitVec.toNat_and]
  have : (BitVec.ofInt IntKind.u32.bits 255).toNat = 255 := by decide
  rw [this]
  exact Nat.and_le_right
 generalize (BitVec.ofInt IntKind.u32.bits x &&& BitVec.ofInt IntKind.u32.bits 255).toNat = n at *
 have e : IntKind.u32.wrap (n : Int) = n := by simp [IntKind.wrap, IntKind.bits, IntKind.signed]; omega
 rw [e]
 omega
theorem octR_eq (ip : Int) (k : Nat) : octR ip k = octI ip k := by
 obtain ⟨h0, h1⟩ := and_rng (ip.fdiv (2 ^ k))
 unfold octR octI
 rw [wu64_id h0 (by omega)]
 exact w64_id (by omega) (by omega)
theorem and0_eq (ip : Int) : and0 ip = octI ip 0 := by
 rw [← octR_eq]
 unfold and0 octR
 rw [show ip.fdiv (2 ^ 0) = ip by simp]
theorem oct3_eq {ip : Int} (h0 : 0 ≤ ip) (h1 : ip < 4294967296) : oct3 ip = octI ip 24 := by
 rw [(oct24 h0 h1).1]
 unfold oct3
 rw [Int.fdiv_eq_ediv_of_nonneg _ (by decide), show (2 : Int) ^ 24 = 16777216 by decide, show w64 (ip / 16777216) = ip / 16777216 from w64_id (by omega) (by omega)]
 omega
noncomputable def ipx_s : CSumm := fun args H => match args, H with
 | [.int .u32 ip], [] => .ite (u32B ip) (.ret (.str (ipB ip)) []) .fail
 | _, _ => .fail
theorem ipx_k : Known Tryz.prog 48 ipx_s := (openKnown (tbl_cons ds_k ok0) Tryz.func48 rfl).weak (by
 intro args H v ups h
 unfold ipx_s at h
 split at h
 · rename_i ip
   rw [crun_ite] at h
   cases hc : u32B ip with
   | false => rw [hc] at h; cases h
   | true =>
    rw [hc, cond_true] at h
    obtain ⟨h0, h1⟩ := u32B_iff.1 hc
    rw [← h]
    refine (congrArg crun (ipx_t ip)).trans ?_
    rw [oct3_eq h0 h1, octR_eq, octR_eq, and0_eq]
    have la := dcB_len (octI ip 24); have lb := dcB_len (octI ip 16); have lc := dcB_len (octI ip 8); have ld := dcB_len (octI ip 0)
    rw [dsC_ok (octI_rng ip 24).1 (octI_rng ip 24).2, adC_ok (by simp only [List.length_append, List.length_cons, List.length_nil]; omega), dsC_ok (octI_rng ip 16).1 (octI_rng ip 16).2, adC_ok (by simp only [List.length_append, List.length_cons, List.length_nil]; omega), adC_ok (by simp only [List.length_append, List.length_cons, List.length_nil]; omega), dsC_ok (octI_rng ip 8).1 (octI_rng ip 8).2, adC_ok (by simp only [List.length_append, List.length_cons, List.length_nil]; omega), adC_ok (by simp only [List.length_append, List.length_cons, List.length_nil]; omega), dsC_ok (octI_rng ip 0).1 (octI_rng ip 0).2, adC_ok (by simp only [List.length_append, List.length_cons, List.length_nil]; omega)]
    unfold ipB
    simp only [List.append_assoc, List.singleton_append, List.cons_append, List.nil_append]
 · cases h)
theorem prx_t (ip l : Int) : opn (tbl [(48, ipx_s), (66, ds_s)]) Tryz.f46 [.agg [.int .u32 ip, .int .i64 l]] [] = bif !vld l then .ret (.tup [.str [], .int .i64 2]) [] else
 bif u32B ip then adC (ipB ip) [47] fun a => dsC l fun b => adC a b fun a => .ret (.tup [.str a, .int .i64 0]) [] else .fail := by kernel_rfl
noncomputable def prx_s : CSumm := fun args H => match args, H with
 | [.agg [.int .u32 ip, .int .i64 l]], [] => .ite (u32B ip) (.ret (.tup [.str (pretV ip l).1, .int .i64 (pretV ip l).2]) []) .fail
 | _, _ => .fail
theorem prx_k : Known Tryz.prog 46 prx_s := (openKnown (tbl_cons ipx_k (tbl_cons ds_k ok0)) Tryz.func46 rfl).weak (by
 intro args H v ups h
 unfold prx_s at h
 split at h
 · rename_i ip l
   rw [crun_ite] at h
   cases hc : u32B ip with
   | false => rw [hc] at h; cases h
   | true =>
    rw [hc, cond_true] at h
    rw [← h]
    refine (congrArg crun (prx_t ip l)).trans ?_
    unfold pretV
    cases hv : vld l with
    | false => rfl
    | true =>
     obtain ⟨h0, h1⟩ := (vld_iff l).1 hv
     have la := ipB_len ip; have lb := dcB_len l
     rw [hc, Bool.not_true, cond_false, cond_true, cond_true, adC_ok (by simp only [List.length_cons, List.length_nil]; omega), dsC_ok h0 (by omega), adC_ok (by simp only [List.length_append, List.length_cons, List.length_nil]; omega)]
 · cases h)
end Go.Proofs.YtjjfggahllnafaaGreatDoor
/- AddrCalls: 'texts'. -/
namespace Go.Proofs.YtjjfggahllnafaaGreatDoor
open Go.Am
set_option maxRecDepth 100000
noncomputable abbrev κtx := tbl [(43, mact_s), (44, mact_s), (45, pret_s), (46, prx_s), (47, ipt_s), (48, ipx_s), (49, esit_s), (50, esit_s)]
theorem txK : KOk Tryz.prog κtx := tbl_cons mact_k (tbl_cons max_k (tbl_cons pret_k (tbl_cons prx_k (tbl_cons ipt_k (tbl_cons ipx_k (tbl_cons esit_k (tbl_cons esx_k ok0)))))))
def rtB (b : Bool) : CTree := .ret (.bool b) []
def andT (b : Bool) (K : CTree) : CTree := bif b then K else rtB false
noncomputable def asT (b : Bool) (K : CTree) : CTree := bif b then K else .fail
theorem txt_t (ip m p l a b c d e f g h i j : Int) : opn κtx Tryz.f31 [.int .u32 ip, .int .u64 m, px p l, es8 [a, b, c, d, e, f, g, h, i, j]] [] =
 asT (dec (octOk p)) (asT (u32B p) (andT ((mactV m).1 == (mactV m).1) (andT ((mactV m).2 == (mactV m).2) (andT ((pretV p l).1 == (pretV p l).1) (andT ((pretV p l).2 == (pretV p l).2)
  (asT (dec (∀ k, 0 ≤ octI ip k ∧ octI ip k ≤ 255)) (asT (u32B ip) (andT (ipB ip == ipB ip) (asT (dec (bytesI [a, b, c, d, e, f, g, h, i, j])) (asT (dec (bytesI [a, b, c, d, e, f, g, h, i, j]))
   (rtB (pairsL [a, b, c, d, e, f, g, h, i, j] == pairsL [a, b, c, d, e, f, g, h, i, j]))))))))))))  := by kernel_rfl
theorem andT_t {b : Bool} {K : CTree} (h : b = true) : andT b K = K := by rw [h]; rfl
theorem asT_t {b : Bool} {K : CTree} (h : b = true) : asT b K = K := by rw [h]; rfl
noncomputable def txt_s : CSumm := fun args H => match args, H with
 | [.int .u32 ip, .int .u64 _, .agg [.int .u32 p, .int .i64 _], .agg [.int .u8 a, .int .u8 b, .int .u8 c, .int .u8 d, .int .u8 e, .int .u8 f, .int .u8 g, .int .u8 h, .int .u8 i, .int .u8 j]], [] =>
  .ite (dec (u32B ip = true ∧ u32B p = true ∧ bytesI [a, b, c, d, e, f, g, h, i, j])) (.ret (.bool true) []) .fail
 | _, _ => .fail
theorem txt_k : Known Tryz.prog 31 txt_s := (openKnown txK Tryz.func31 rfl).weak (by
 intro args H v ups hh
 unfold txt_s at hh
 split at hh
 · rename_i ip m p l a b c d e f g h i j
   rw [crun_ite, cond_eq_ite] at hh
   split at hh
   · rename_i hc
     obtain ⟨h1, h2, h3⟩ := dec_iff.1 hc
     rw [← hh]
     refine (congrArg crun (txt_t ip m p l a b c d e f g h i j)).trans ?_
     rw [asT_t (dec_iff.2 (octOk_all p)), asT_t h2, andT_t (by simp), andT_t (by simp), andT_t (by simp), andT_t (by simp), asT_t (dec_iff.2 (fun k => octI_rng ip k)), asT_t h1, andT_t (by simp), asT_t (dec_iff.2 h3), asT_t (dec_iff.2 h3), show (pairsL [a, b, c, d, e, f, g, h, i, j] == pairsL [a, b, c, d, e, f, g, h, i, j]) = true by simp]
     rfl
   · cases hh
 · cases hh)
end Go.Proofs.YtjjfggahllnafaaGreatDoor
/- AddrCalls: the reference's ParseMAC, ParseESI: trees. -/
namespace Go.Proofs.YtjjfggahllnafaaGreatDoor
open Go.Am
set_option maxRecDepth 100000
def ixC (s : List UInt8) (i : Int) (K : Int → CTree) : CTree := bif inB i s.length then K (s.getD i.toNat 0).toNat else .fail
def ixD (s : List UInt8) (i : Int) (K : Int → CTree) : CTree := ixC s i fun c => bif decide (0 ≤ c ∧ c ≤ 255) then K (dgR c) else .fail
def paR (s : List UInt8) (F : CTree) : Nat → Int → List Int → (List Int → CTree) → CTree
 | 0, _, vs, K => K vs
 | k + 1, i, vs, K => ixD s (w64 (3 * i)) fun a => ixD s (w64 (w64 (3 * i) + 1)) fun b => bif decide (a < 0) then F else bif decide (b < 0) then F else
   bif decide (i > 0) then ixC s (w64 (w64 (3 * i) - 1)) fun c => bif c != 58 then F else paR s F k (w64 (i + 1)) (vs ++ [w8 (w64 (w64 (16 * a) + b))]) K else paR s F k (w64 (i + 1)) (vs ++ [w8 (w64 (w64 (16 * a) + b))]) K
def paC (s : List UInt8) (n : Nat) (F : CTree) (K : List Int → CTree) : CTree := bif (s.length : Int) != w64 (w64 (3 * n) - 1) then F else paR s F n 0 [] K
def plM (l : List Int) : Int := plO (plO (plO (plO (plO (plO 0 (l.getD 0 0)) (l.getD 1 0)) (l.getD 2 0)) (l.getD 3 0)) (l.getD 4 0)) (l.getD 5 0)
theorem pmx_t (s : List UInt8) : opn (tbl [(82, dr_s)]) Tryz.f52 [.str s] [] = paC s 6 (.ret (.tup [.int .u64 0, .int .i64 19]) []) fun l => .ret (.tup [.int .u64 (plM l), .int .i64 0]) [] := by kernel_rfl
theorem pex_t (s : List UInt8) : opn (tbl [(82, dr_s)]) Tryz.f58 [.str s] [] = paC s 10 (.ret (.tup [es8 [0, 0, 0, 0, 0, 0, 0, 0, 0, 0], .int .i64 19]) []) fun l => .ret (.tup [es8 l, .int .i64 0]) [] := by kernel_rfl
end Go.Proofs.YtjjfggahllnafaaGreatDoor
/- AddrCalls: cutting, plainly. -/
namespace Go.Proofs.YtjjfggahllnafaaGreatDoor
open Go.Am
set_option maxRecDepth 100000
theorem cut_app (c : UInt8) : ∀ (a r : List UInt8), (∀ x ∈ a, x ≠ c) → cutF c (a ++ c :: r) = (a, r, true)
 | [], r, _ => by unfold cutF; simp
 | x :: a, r, h => by
  have hx : (x == c) = false := by simpa using h x (by simp)
  rw [List.cons_append]
  unfold cutF
  rw [hx, cond_false, cut_app c a r (fun y hy => h y (by simp [hy]))]
theorem cut_none (c : UInt8) : ∀ (a : List UInt8), (∀ x ∈ a, x ≠ c) → cutF c a = (a, [], false)
 | [], _ => rfl
 | x :: a, h => by
  have hx : (x == c) = false := by simpa using h x (by simp)
  unfold cutF
  rw [hx, cond_false, cut_none c a (fun y hy => h y (by simp [hy]))]
theorem cut_back (c : UInt8) : ∀ (s h t : List UInt8), cutF c s = (h, t, true) → s = h ++ c :: t
 | [], h, t, e => by simp [cutF] at e
 | x :: s, h, t, e => by
  unfold cutF at e
  cases hx : x == c with
  | true =>
   rw [hx, cond_true] at e
   have : x = c := by simpa using hx
   cases e; rw [this]; rfl
  | false =>
   rw [hx, cond_false] at e
   simp only [Prod.mk.injEq] at e
   obtain ⟨rfl, e2, e3⟩ := e
   have := cut_back c s (cutF c s).1 t (by rw [← e2, ← e3])
   rw [List.cons_append, ← this]
theorem cut_whole (c : UInt8) : ∀ (s : List UInt8), (cutF c s).2.2 = false → (cutF c s).1 = s ∧ (cutF c s).2.1 = []
 | [], _ => ⟨rfl, rfl⟩
 | x :: s, e => by
  unfold cutF at e ⊢
  cases hx : x == c with
  | true => rw [hx] at e; cases e
  | false =>
   rw [hx, cond_false] at e
   rw [cond_false]
   obtain ⟨h1, h2⟩ := cut_whole c s e
   exact ⟨by rw [h1], h2⟩
/- Decimal numbers. -/
theorem dgS16_cons {v w : Int} {c : UInt8} {cs : List UInt8} (h : dgS 16 255 (c :: cs) v = some w) : dgt c.toNat 16 < 16 ∧ dgS 16 255 cs (v * 16 + dgt c.toNat 16) = some w := by
 unfold dgS at h
 cases hq : (bif decide (dgt c.toNat 16 ≥ 16) then true else decide (v * 16 + dgt c.toNat 16 > 255)) with
 | true => rw [hq] at h; cases h
 | false =>
  rw [hq, cond_false] at h
  by_cases a1 : dgt c.toNat 16 ≥ 16
  · rw [decide_eq_true a1] at hq; cases hq
  · exact ⟨by omega, h⟩
theorem spF_last {rd : List UInt8 → Int × Bool} {c : UInt8} {s : List UInt8} {v : Int} (hc : ∀ x ∈ s, x ≠ c) (hr : rd s = (v, true)) : spF rd c 1 s = some [v] := by
 unfold spF; rw [cut_none c s hc]; simp only []; rw [hr]; rfl
theorem spF_more {rd : List UInt8 → Int × Bool} {c : UInt8} {a t : List UInt8} {v : Int} {m : Nat} {l : List Int} (hc : ∀ x ∈ a, x ≠ c) (hr : rd a = (v, true)) (ht : spF rd c m t = some l) : spF rd c (m + 1) (a ++ c :: t) = some (v :: l) := by
 unfold spF; rw [cut_app c a t hc]; simp only []; rw [hr, ht]; rfl
theorem spF_back {rd : List UInt8 → Int × Bool} {c : UInt8} {m : Nat} {s : List UInt8} {l : List Int} (h : spF rd c (m + 1) s = some l) :
  (m = 0 ∧ ∃ v, rd s = (v, true) ∧ l = [v]) ∨ ∃ a t v r, s = a ++ c :: t ∧ rd a = (v, true) ∧ spF rd c m t = some r ∧ l = v :: r := by
 unfold spF at h
 cases hr : !(rd (cutF c s).1).2 with
 | true => rw [hr] at h; cases h
 | false =>
  have hr2 : rd (cutF c s).1 = ((rd (cutF c s).1).1, true) := by
   have : (rd (cutF c s).1).2 = true := by simpa using hr
   exact Prod.ext rfl this
  rw [hr, cond_false] at h
  cases hm : !(cutF c s).2.2 with
  | true =>
   rw [hm, cond_true] at h
   have hf : (cutF c s).2.2 = false := by simpa using hm
   obtain ⟨h1, _⟩ := cut_whole c s hf
   rw [h1] at hr2 h
   cases m with
   | zero => left; refine ⟨rfl, _, hr2, ?_⟩; cases h; rfl
   | succ m => cases h
  | false =>
   rw [hm, cond_false] at h
   have hf : (cutF c s).2.2 = true := by simpa using hm
   have hs := cut_back c s (cutF c s).1 (cutF c s).2.1 (by rw [← hf])
   cases hq : spF rd c m (cutF c s).2.1 with
   | none => rw [hq] at h; cases h
   | some r =>
    rw [hq] at h
    right
    refine ⟨_, _, _, r, hs, hr2, hq, ?_⟩
    cases h; rfl
end Go.Proofs.YtjjfggahllnafaaGreatDoor
