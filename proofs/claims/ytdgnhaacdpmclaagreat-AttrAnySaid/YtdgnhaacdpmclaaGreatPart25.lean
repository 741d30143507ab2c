/- AttrAny: the pieces are put into another order. -/
import Derived.Test.YtdgnhaacdpmclaaGreatPart24
set_option linter.unusedVariables false
set_option linter.unusedSimpArgs false
namespace Go.Proofs.YtdgnhaacdpmclaaGreat
open Go.Am
set_option maxRecDepth 100000
noncomputable def body5 : Code := Tryz.f5.body.getD .skip
noncomputable def c5s : Code := (loopAt 10 body5).getD .skip
def pce (x : SV) : SV := .psl 5 (asL x)
def sw1 (ps : List SV) (k : Int) : List SV := (ps.set 0 (pce (ps.getD k.toNat .junk))).set k.toNat (pce (ps.getD 0 .junk))
def swF (ord : List SV) : Nat → Int → List SV → List SV
 | 0, _, ps => ps
 | k + 1, i, ps => swF ord k (i + 1) (sw1 ps (pck (asI (ord.getD i.toNat .junk)) ps.length))
def swOk (ord : List SV) (n : Nat) (i : Int) (ps : List SV) : Prop := n = ps.length ∧ 0 < n ∧ n ≤ 1000 ∧ 0 ≤ i ∧ i ≤ ord.length ∧ ord.length ≤ 1000
noncomputable def sws_s : CSumm := fun args H => match args, H with
 | [.psl 3 ord, .qs 0 1 0 n, .int .i64 i], [(0, .seq 22 ps)] => .ite (dec (swOk ord n i ps)) (.ret (.tup [.int .i64 2, .qs 0 1 0 n]) [(0, some (.seq 22 (swF ord (ord.length - i.toNat) i ps)))]) .fail
 | _, _ => .fail
def swsM : List SV → HpL → Nat
 | [.psl _ ord, _, .int _ i], _ => ord.length - i.toNat
 | _, _ => 0
noncomputable def e5s : LEnt := { ins := [3, 17, 18], outs := [17], keep := [1, 2, 4, 5, 6, 7, 15], size := 237, code := c5s, s := sws_s }
noncomputable abbrev κpk := openT Tryz.prog (tbl [(16, pick_s)]) 300 5
noncomputable abbrev ιpk : Nat → Bool := fun g => inl (tbl [(16, pick_s)]) g && hasBody Tryz.prog g
theorem pkOk : KOk Tryz.prog κpk := openT_ok noNumTry mixTry (tbl_cons pick_k ok0) 300 5
end Go.Proofs.YtdgnhaacdpmclaaGreat
/- AttrAny: the loop that puts the pieces into another order, valid. -/
namespace Go.Proofs.YtdgnhaacdpmclaaGreat
open Go.Am
set_option maxRecDepth 100000
noncomputable def inC (i : Int) (n m : Nat) (K : CTree) : CTree := bif inB i n then bif decide (0 + i.toNat < m) then K else .fail else .fail
def sw2 (ps : List SV) (k : Int) : List SV := (ps.set 0 (pce (ps.getD (0 + k.toNat) .junk))).set (0 + k.toNat) (pce (ps.getD 0 .junk))
noncomputable def swT (N : Nat) (ord : List SV) (n : Nat) (i : Int) (ps : List SV) : CTree :=
 bif Nat.blt (ord.length - i.toNat) N then bif dec (swOk ord n i ps) then .ret (.tup [.int .i64 2, .qs 0 1 0 n]) [(0, some (.seq 22 (swF ord (ord.length - i.toNat) i ps)))] else .fail else .fail
theorem sws_t (N n : Nat) (ord ps : List SV) (i : Int) : loopOnce Tryz.prog κpk ιpk (ltab []) true 300 e5s { e5s with s := boundT swsM sws_s N } c5s [.psl 3 ord, .qs 0 1 0 n, .int .i64 i] [(0, .seq 22 ps)] =
 bif (bif decide (i < ord.length) then decide ((n : Int) > 0) else false) then bif inB i ord.length then bif decide (0 < (n : Int)) then
  inC (pck (asI (ord.getD i.toNat .junk)) n) n ps.length (inC 0 n ps.length (inC 0 n ps.length (inC (pck (asI (ord.getD i.toNat .junk)) n) n (ps.set (0 + (0 : Int).toNat) (pce (ps.getD (0 + (pck (asI (ord.getD i.toNat .junk)) n).toNat) .junk))).length
   (swT N ord n (w64 (i + 1)) (sw2 ps (pck (asI (ord.getD i.toNat .junk)) n))))))
 else .fail else .fail else .ret (.tup [.int .i64 2, .qs 0 1 0 n]) [] := by kernel_rfl
theorem sw1_len (ps : List SV) (k : Int) : (sw1 ps k).length = ps.length := by unfold sw1; rw [List.length_set, List.length_set]
theorem sws_valid : ValidL Tryz.prog e5s := loop_valid2 (κ := κpk) (ι := ιpk) (T := ltab []) (sp := true) (fuel := 300) (c := c5s) (μ := swsM) pkOk mixTry ltab_nil (show fillC (ltab []) c5s = c5s by kernel_rfl) (by
 intro N args H v' ups' hbt h
 unfold e5s sws_s at h
 simp only [] at h
 split at h
 · rename_i ord n i ps
   rw [crun_ite] at h
   cases hc : dec (swOk ord n i ps) with
   | false => rw [hc] at h; cases h
   | true =>
    rw [hc, cond_true] at h
    obtain ⟨rfl, hp, hm, h0, h1, ho⟩ := dec_iff.1 hc
    have ht := sws_t N ps.length ord ps i
    have hN : Nat.blt (ord.length - i.toNat) (N + 1) = true := hbt
    rw [Nat.blt_eq] at hN
    by_cases hi : i < ord.length
    · obtain ⟨k0, k1⟩ := pck_rng (x := asI (ord.getD i.toNat .junk)) (n := (ps.length : Int)) (by omega) (by omega)
      obtain ⟨j, hj⟩ : ∃ j, ord.length - i.toNat = j + 1 := ⟨ord.length - i.toNat - 1, by omega⟩
      rw [hj, swF] at h
      generalize pck (asI (ord.getD i.toNat .junk)) ps.length = k at *
      have hin : ∀ m K, m = ps.length → inC k ps.length m K = K := fun m K hm => by
       unfold inC; rw [inB_ok k0 k1, decide_eq_true (by omega)]; rfl
      have hin0 : ∀ m K, m = ps.length → inC 0 ps.length m K = K := fun m K hm => by
       unfold inC; rw [inB_ok (by omega) (by omega), decide_eq_true (by omega)]; rfl
      have hs : sw2 ps k = sw1 ps k := by unfold sw2 sw1; rw [Nat.zero_add]
      rw [decide_eq_true hi, cond_true, decide_eq_true (show (ps.length : Int) > 0 by omega), cond_true, inB_ok h0 hi, cond_true, cond_true, hin _ _ rfl, hin0 _ _ rfl, hin0 _ _ rfl, hin _ _ (List.length_set ..), hs, show w64 (i + 1) = i + 1 from w64_id (by omega) (by omega)] at ht
      unfold swT at ht
      rw [show Nat.blt (ord.length - (i + 1).toNat) N = true by rw [Nat.blt_eq]; omega, cond_true, dec_iff.2 ⟨(sw1_len ps k).symm, hp, hm, by omega, by omega, ho⟩, cond_true, show ord.length - (i + 1).toNat = j by omega] at ht
      cases h
      exact .inl ⟨_, congrArg crun ht, fun x => rfl⟩
    · rw [decide_eq_false hi, cond_false, cond_false] at ht
      rw [show ord.length - i.toNat = 0 by omega, swF] at h
      cases h
      refine .inl ⟨_, congrArg crun ht, fun x => ?_⟩
      simp only [updF, HpL.get]
      by_cases h0 : x = 0
      · subst h0; rfl
      · rw [if_neg h0, nb_f (fun e => h0 e.symm)]
 · cases h)
end Go.Proofs.YtdgnhaacdpmclaaGreat
/- AttrAny: the pieces are joined, with one more among them. -/
namespace Go.Proofs.YtdgnhaacdpmclaaGreat
open Go.Am
set_option maxRecDepth 100000
noncomputable def c5m : Code := (loopAt 17 body5).getD .skip
def unk (c : Int) (v : List SV) : List SV := [.int .u8 192, .int .u8 (IntKind.u8.wrap (w64 (100 + pck c 100))), .int .u8 (IntKind.u8.wrap v.length)] ++ v
structure Mx where
 M : List SV
 o : Int
def mx1 (U : List SV) (at_ i : Int) (s : Mx) : Mx := bif i == at_ then ⟨s.M ++ U, s.M.length⟩ else s
def mx2 (ps : List SV) (i : Int) (s : Mx) : Mx := bif decide (i < ps.length) then ⟨s.M ++ asL (ps.getD i.toNat .junk), s.o⟩ else s
def mxF (U : List SV) (at_ : Int) (ps : List SV) : Nat → Int → Mx → Mx
 | 0, _, s => s
 | k + 1, i, s => mxF U at_ ps k (i + 1) (mx2 ps i (mx1 U at_ i s))
def mxOk (v : List SV) (n : Nat) (i : Int) (ps M : List SV) (m : Nat) : Prop := n = ps.length ∧ n ≤ 100 ∧ 0 ≤ i ∧ i ≤ n + 1 ∧ m = M.length ∧ v.length ≤ 100000 ∧ (∀ x ∈ ps, 2 ≤ (asL x).length ∧ (asL x).length ≤ 100000) ∧ M.length + 300000 * (n + 1 - i.toNat) ≤ 100000000
def mxR (n : Nat) (s : Mx) : CTree := .ret (.tup [.int .i64 4, .qs 0 1 0 n, .qs 2 1 0 s.M.length, .int .i64 s.o]) [(1, none), (2, some (.seq 5 s.M))]
noncomputable def mxs_s : CSumm := fun args H => match args, H with
 | [.int .i64 c, .psl 5 v, .int .i64 at_, .qs 0 1 0 n, .qs 1 1 0 m, .int .i64 o, .int .i64 i], [(0, .seq 22 ps), (1, .seq 5 M)] => .ite (dec (mxOk v n i ps M m))
    (mxR n (mxF (unk c v) at_ ps (n + 1 - i.toNat) i ⟨M, o⟩)) .fail
 | _, _ => .fail
def mxM : List SV → HpL → Nat
 | [_, _, _, .qs _ _ _ n, _, _, .int _ i], _ => n + 1 - i.toNat
 | _, _ => 0
noncomputable def e5m : LEnt := { ins := [4, 5, 6, 17, 20, 21, 22], outs := [17, 20, 21], keep := [1, 2, 7, 15], size := 237, code := c5m, s := mxs_s }
def mxH (ps M : List SV) : HpL := [(0, .seq 22 ps), (1, .seq 5 M)]
def mxA (c : Int) (v : List SV) (at_ : Int) (n m : Nat) (o i : Int) : List SV := [.int .i64 c, .psl 5 v, .int .i64 at_, .qs 0 1 0 n, .qs 1 1 0 m, .int .i64 o, .int .i64 i]
noncomputable def mxT (N : Nat) (c : Int) (v : List SV) (at_ : Int) (n : Nat) (ps : List SV) (i : Int) (m : Nat) (M : List SV) (o : Int) : CTree :=
 bif Nat.blt (n + 1 - i.toNat) N then bif dec (mxOk v n i ps M m) then mxR n (mxF (unk c v) at_ ps (n + 1 - i.toNat) i ⟨M, o⟩) else .fail else .fail
noncomputable def mxB (N : Nat) (c : Int) (v : List SV) (at_ : Int) (n : Nat) (ps : List SV) (i : Int) (m : Nat) (M : List SV) (o : Int) : CTree :=
 bif decide (i < n) then elC n ps i fun p => apC m M p fun m M => mxT N c v at_ n ps (w64 (i + 1)) m M o else mxT N c v at_ n ps (w64 (i + 1)) m M o
theorem mx_t (N : Nat) (c : Int) (v : List SV) (at_ : Int) (n m : Nat) (o i : Int) (ps M : List SV) : loopOnce Tryz.prog κpk ιpk (ltab []) true 300 e5m { e5m with s := boundT mxM mxs_s N } c5m (mxA c v at_ n m o i) (mxH ps M) =
 bif decide (i ≤ n) then bif i == at_ then
  apC m M [.int .u8 192, .int .u8 (IntKind.u8.wrap (w64 (100 + pck c 100))), .int .u8 (IntKind.u8.wrap v.length)] fun m2 M2 => apC m2 M2 v fun m3 M3 => mxB N c v at_ n ps i m3 M3 m
 else mxB N c v at_ n ps i m M o
 else .ret (.tup [.int .i64 4, .qs 0 1 0 n, .qs 1 1 0 m, .int .i64 o]) [] := by kernel_rfl
end Go.Proofs.YtdgnhaacdpmclaaGreat
/- AttrAny: the plain law: attributes in any order, with one more that nobody knows; twice; cut. -/
namespace Go.Proofs.YtdgnhaacdpmclaaGreat
open Go.Am
set_option maxRecDepth 100000
theorem rowsB_cons {a : At} {R U : List SV} (k : Nat) (ks : List Nat) : rowsB a R U (k :: ks) = putB k a R U ++ rowsB a R U ks := rfl
theorem rows_pre {a : At} {R U es post : List SV} (hv : ∀ r, (valB r a R U).length ≤ 65535) (hok : ∀ r, r ≤ 9 → wrB r a R U = true → okC (codeR r) (valB r a R U) = true) : ∀ (ks : List Nat) (pre : List SV) (x : Int) (s : List (Int × Bool)) (z : Dz), es = pre ++ (rowsB a R U ks ++ post) →
  (∀ r ∈ ks, r ≤ 9) → (ks.map codeR).Nodup → (∀ r ∈ ks, lookB s (codeR r) = false) → ∃ y, attK es es.length pre.length x s z = attK es es.length (pre ++ rowsB a R U ks).length y (sF a R U ks s) (zF a R U ks z)
 | [], pre, x, s, z, hes, _, _, _ => ⟨x, by rw [show rowsB a R U [] = [] from rfl, List.append_nil]; rfl⟩
 | k :: ks, pre, x, s, z, hes, h9, hnd, hs => by
  rw [List.map_cons, List.nodup_cons] at hnd
  have hes2 : es = pre ++ (putB k a R U ++ (rowsB a R U ks ++ post)) := by rw [hes, rowsB_cons, List.append_assoc]
  obtain ⟨y, hy⟩ := att_row (lk := lookB) (st := stK) (es := es) (pre := pre) (post := rowsB a R U ks ++ post) (r := k) (a := a) (R := R) (U := U) (h9 k (by simp)) hes2 (hv k) (x := x) (s := s) (z := z) (hs k (by simp)) (hok k (h9 k (by simp)))
  obtain ⟨y2, hy2⟩ := rows_pre (es := es) (post := post) hv hok ks (pre ++ putB k a R U) y (bif wrB k a R U then stK s (codeR k) else s) (bif wrB k a R U then gC (codeR k) (valB k a R U) z else z) (by rw [hes2, List.append_assoc]) (fun r hr => h9 r (by simp [hr])) hnd.2 (fun r hr => by
   rw [lk_step, hs r (by simp [hr])]
   have hne : codeR r ≠ codeR k := fun e => hnd.1 (by rw [← e]; exact List.mem_map_of_mem hr)
   rw [show (codeR r == codeR k) = false by simpa using hne]
   simp)
  refine ⟨y2, ?_⟩
  unfold attK at *
  rw [hy, hy2, sF, zF, rowsB_cons, List.append_assoc]
theorem sF_app (a : At) (R U : List SV) : ∀ (ks ls : List Nat) (s : List (Int × Bool)), sF a R U (ks ++ ls) s = sF a R U ls (sF a R U ks s)
 | [], _, _ => rfl
 | k :: ks, ls, s => by rw [List.cons_append, sF, sF, sF_app a R U ks ls]
theorem zF_app (a : At) (R U : List SV) : ∀ (ks ls : List Nat) (z : Dz), zF a R U (ks ++ ls) z = zF a R U ls (zF a R U ks z)
 | [], _, _ => rfl
 | k :: ks, ls, z => by rw [List.cons_append, zF, zF, zF_app a R U ks ls]
/- The order does not matter. -/
noncomputable def stp (a : At) (R U : List SV) (k : Nat) (d : Ds) : Ds := bif wrB k a R U then gD (codeR k) (valB k a R U) d else d
theorem dF_cons (a : At) (R U : List SV) (k : Nat) (ks : List Nat) (d : Ds) : dF a R U (k :: ks) d = dF a R U ks (stp a R U k d) := rfl
def updD (m : Nat → Bool) (e d : Ds) : Ds := ⟨bif m 0 then e.ori else d.ori, bif m 1 then e.nx else d.nx, bif m 2 then e.med else d.med, bif m 3 then e.prf else d.prf, bif m 4 then e.orr else d.orr, bif m 5 then e.tk else d.tk, bif m 6 then e.tl else d.tl, bif m 7 then e.tr else d.tr, bif m 8 then e.tg else d.tg, bif m 9 then e.hm else d.hm, bif m 10 then e.hp else d.hp, bif m 11 then e.ho else d.ho, bif m 12 then e.path else d.path, bif m 13 then e.cl else d.cl, bif m 14 then e.cm else d.cm, bif m 15 then e.rch else d.rch, bif m 16 then e.unr else d.unr⟩
def fldR (r i : Nat) : Bool := match r with
 | 0 => i == 0
 | 1 => i == 12
 | 2 => i == 9 || i == 2
 | 3 => i == 10 || i == 3
 | 4 => i == 11 || i == 4
 | 5 => i == 13
 | 6 => i == 1 || i == 15
 | 7 => i == 16
 | 8 => i == 14
 | _ => i == 5 || i == 6 || i == 7 || i == 8
theorem msk_ne : ∀ r, r ≤ 9 → ∀ s, s ≤ 9 → r ≠ s → ∀ i, i ≤ 16 → (fldR r i && fldR s i) = false := by decide +kernel
theorem gD_upd (v : List SV) (d : Ds) : ∀ r, r ≤ 9 → gD (codeR r) v d = updD (fldR r) (gD (codeR r) v dI0) d
 | 0, _ => rfl | 1, _ => rfl | 2, _ => rfl | 3, _ => rfl | 4, _ => rfl | 5, _ => rfl | 6, _ => rfl | 7, _ => rfl | 8, _ => rfl | 9, _ => rfl
 | r + 10, h => by omega
theorem bif_comm {α : Type} {m n : Bool} (h : (m && n) = false) (x y z : α) : (bif m then x else bif n then y else z) = bif n then y else bif m then x else z := by
 cases m <;> cases n <;> first | rfl | cases h
theorem upd_comm {m n : Nat → Bool} (h : ∀ i, i ≤ 16 → (m i && n i) = false) (e f d : Ds) : updD m e (updD n f d) = updD n f (updD m e d) := by
 unfold updD
 simp only []
 rw [bif_comm (h 0 (by decide)), bif_comm (h 1 (by decide)), bif_comm (h 2 (by decide)), bif_comm (h 3 (by decide)), bif_comm (h 4 (by decide)), bif_comm (h 5 (by decide)), bif_comm (h 6 (by decide)), bif_comm (h 7 (by decide)), bif_comm (h 8 (by decide)), bif_comm (h 9 (by decide)), bif_comm (h 10 (by decide)), bif_comm (h 11 (by decide)), bif_comm (h 12 (by decide)), bif_comm (h 13 (by decide)), bif_comm (h 14 (by decide)), bif_comm (h 15 (by decide)), bif_comm (h 16 (by decide))]
theorem stp_comm {a : At} {R U : List SV} {j k : Nat} (hj : j ≤ 9) (hk : k ≤ 9) (d : Ds) : stp a R U j (stp a R U k d) = stp a R U k (stp a R U j d) := by
 by_cases h : j = k
 · subst h; rfl
 · unfold stp
   cases wrB j a R U <;> cases wrB k a R U
   · rfl
   · rfl
   · rfl
   · show gD (codeR j) _ (gD (codeR k) _ d) = gD (codeR k) _ (gD (codeR j) _ d)
     rw [gD_upd _ (gD (codeR k) _ d) j hj, gD_upd _ d k hk, gD_upd _ (gD (codeR j) _ d) k hk, gD_upd _ d j hj]
     exact upd_comm (msk_ne j hj k hk h) _ _ _
theorem dF_perm {a : At} {R U : List SV} {ks ls : List Nat} (h : ks.Perm ls) : (∀ k ∈ ks, k ≤ 9) → ∀ d, dF a R U ks d = dF a R U ls d := by
 induction h with
 | nil => exact fun _ _ => rfl
 | cons x _ ih => exact fun h9 d => by rw [dF_cons, dF_cons, ih (fun k hk => h9 k (by simp [hk]))]
 | swap x y l => exact fun h9 d => by rw [dF_cons, dF_cons, dF_cons, dF_cons, stp_comm (h9 x (by simp)) (h9 y (by simp))]
 | trans h1 _ ih1 ih2 => exact fun h9 d => by rw [ih1 h9, ih2 (fun k hk => h9 k (h1.mem_iff.2 hk))]
theorem dF_wr (a : At) (R U : List SV) : ∀ (ks : List Nat) (d : Ds), dF a R U (ks.filter (fun k => wrB k a R U)) d = dF a R U ks d
 | [], _ => rfl
 | k :: ks, d => by
  cases hw : wrB k a R U with
  | true => rw [List.filter_cons, if_pos hw, dF_cons, dF_cons, dF_wr a R U ks]
  | false => rw [List.filter_cons, if_neg (by rw [hw]; decide), dF_cons, dF_wr a R U ks, show stp a R U k d = d by unfold stp; rw [hw]; rfl]
theorem any_perm {α : Type} {ks ls : List α} (h : ks.Perm ls) (f : α → Bool) : ks.any f = ls.any f := by
 rw [Bool.eq_iff_iff, List.any_eq_true, List.any_eq_true]
 exact ⟨fun ⟨x, h1, h2⟩ => ⟨x, h.mem_iff.1 h1, h2⟩, fun ⟨x, h1, h2⟩ => ⟨x, h.mem_iff.2 h1, h2⟩⟩
theorem any_wr (a : At) (R U : List SV) (c : Int) : ∀ ks : List Nat, (ks.filter (fun k => wrB k a R U)).any (fun r => wrB r a R U && c == codeR r) = ks.any (fun r => wrB r a R U && c == codeR r)
 | [] => rfl
 | k :: ks => by
  cases hw : wrB k a R U with
  | true => rw [List.filter_cons, if_pos hw, List.any_cons, List.any_cons, any_wr a R U c ks]
  | false => rw [List.filter_cons, if_neg (by rw [hw]; decide), List.any_cons, any_wr a R U c ks, hw]; rfl
theorem wk_nodup (a : At) (R U : List SV) : ((wk a R U).map codeR).Nodup :=
 List.Nodup.sublist (List.Sublist.map codeR (List.filter_sublist (l := allK))) (by decide)
theorem wk_9 {a : At} {R U : List SV} {k : Nat} (h : k ∈ wk a R U) : k ≤ 9 ∧ wrB k a R U = true := by
 obtain ⟨h1, h2⟩ := List.mem_filter.1 h
 exact ⟨(show ∀ k ∈ allK, k ≤ 9 by decide) k h1, h2⟩
theorem rowsB_wr (a : At) (R U : List SV) : ∀ ks : List Nat, rowsB a R U (ks.filter (fun k => wrB k a R U)) = rowsB a R U ks
 | [] => rfl
 | k :: ks => by
  cases hw : wrB k a R U with
  | true => rw [List.filter_cons, if_pos hw, rowsB_cons, rowsB_cons, rowsB_wr a R U ks]
  | false => rw [List.filter_cons, if_neg (by rw [hw]; decide), rowsB_cons, rowsB_wr a R U ks, show putB k a R U = [] by unfold putB; rw [hw]; rfl]; rfl
theorem unk_at {c : Int} {v : List SV} (hv : v.length ≤ 60) : unk c v = atB 192 (IntKind.u8.wrap (w64 (100 + pck c 100))) v := by
 rw [atB_short (by omega)]; rfl
theorem unk_code (c : Int) : 100 ≤ IntKind.u8.wrap (w64 (100 + pck c 100)) ∧ IntKind.u8.wrap (w64 (100 + pck c 100)) ≤ 199 := by
 obtain ⟨h1, h2⟩ := pck_rng (x := c) (n := 100) (by omega) (by omega)
 rw [show w64 (100 + pck c 100) = 100 + pck c 100 from w64_id (by omega) (by omega), w8_id (by omega) (by omega)]
 omega
theorem unk_no (c : Int) : knC (IntKind.u8.wrap (w64 (100 + pck c 100))) = false := by
 obtain ⟨h1, h2⟩ := unk_code c
 cases h : knC (IntKind.u8.wrap (w64 (100 + pck c 100))) with
 | false => rfl
 | true => rcases knC_of h with e | e | e | e | e | e | e | e | e | e <;> omega
section
variable {a : At} {r u : List SV} (h : Vd a r u) (lr : r.length ≤ 20) (lu : u.length ≤ 20)
include h lr lu
theorem Vd.mixed {k1 k2 : List Nat} (hp : (k1 ++ k2).Perm (wk a (nbs r) (nbs u))) {c : Int} {v : List SV} (hv : v.length ≤ 60) :
  rdQ (rowsB a (nbs r) (nbs u) k1 ++ (unk c v ++ rowsB a (nbs r) (nbs u) k2)) (rowsB a (nbs r) (nbs u) k1 ++ (unk c v ++ rowsB a (nbs r) (nbs u) k2)).length = (0, 0, finD a r u) := by
 have hvl := h.vl lr lu
 have h9 : ∀ k ∈ k1 ++ k2, k ≤ 9 := fun k hk => (wk_9 (hp.mem_iff.1 hk)).1
 have hnd : ((k1 ++ k2).map codeR).Nodup := (hp.map codeR).nodup_iff.2 (wk_nodup _ _ _)
 rw [List.map_append, List.nodup_append] at hnd
 obtain ⟨n1, n2, n3⟩ := hnd
 generalize hes : rowsB a (nbs r) (nbs u) k1 ++ (unk c v ++ rowsB a (nbs r) (nbs u) k2) = es
 obtain ⟨y, hy⟩ := rows_pre (es := es) hvl h.oks k1 [] 0 [] zI (by rw [← hes]; rfl) (fun k hk => h9 k (by simp [hk])) n1 (fun _ _ => rfl)
 rw [List.nil_append, show ([] : List SV).length = 0 from rfl] at hy
 rw [unk_at hv] at hes
 obtain ⟨p1, p2, p3, p4, p5, p6⟩ := at_parts (es := es) (pre := rowsB a (nbs r) (nbs u) k1) (post := rowsB a (nbs r) (nbs u) k2) hes.symm (.inr (.inr rfl)) (by omega)
 have d0 : dg es (rowsB a (nbs r) (nbs u) k1).length = 192 := by
  rw [← hes]
  have := dg_app (pre := rowsB a (nbs r) (nbs u) k1) (l := atB 192 (IntKind.u8.wrap (w64 (100 + pck c 100))) v ++ rowsB a (nbs r) (nbs u) k2) 0
  rw [Nat.add_zero] at this
  rw [this, atB_short (by omega)]; rfl
 have hu := attL_unk (lk := lookB) (st := stK) (at_ := y) (s := sF a (nbs r) (nbs u) k1 []) (z := zF a (nbs r) (nbs u) k1 zI) p6 p4 (by rw [p1]; exact unk_no c) (by rw [d0]; rfl)
 obtain ⟨y2, hy2⟩ := rows_read (es := es) hvl h.oks k2 (rowsB a (nbs r) (nbs u) k1 ++ atB 192 (IntKind.u8.wrap (w64 (100 + pck c 100))) v) ((rowsB a (nbs r) (nbs u) k1).length : Int) (sF a (nbs r) (nbs u) k1 []) (zF a (nbs r) (nbs u) k1 zI) (by rw [← hes, List.append_assoc]) (fun k hk => h9 k (by simp [hk])) n2 (fun k hk => by
  rw [sF_lk]
  show (false || k1.any _) = false
  rw [Bool.false_or, List.any_eq_false]
  intro j hj
  simp only [Bool.and_eq_true, beq_iff_eq, not_and]
  exact fun _ e => n3 _ (List.mem_map_of_mem hj) _ (List.mem_map_of_mem hk) e.symm)
 have hall : attK es es.length 0 0 [] zI = (0, y2, sF a (nbs r) (nbs u) (k1 ++ k2) [], zF a (nbs r) (nbs u) (k1 ++ k2) zI) := by
  rw [hy, sF_app, zF_app]
  unfold attK at *
  rw [hu, p3, ← hy2, List.length_append]
 have lk : ∀ c, lookB (sF a (nbs r) (nbs u) (k1 ++ k2) []) c = allK.any (fun r' => wrB r' a (nbs r) (nbs u) && c == codeR r') := fun c => by
  rw [sF_lk, any_perm hp]
  show (false || (allK.filter _).any _) = _
  rw [Bool.false_or, any_wr]
 have hd : (zF a (nbs r) (nbs u) (k1 ++ k2) zI).d = dF a (nbs r) (nbs u) allK dI0 := by
  rw [zF_d, dF_perm hp h9]
  exact dF_wr _ _ _ allK dI0
 have k14 : lookB (sF a (nbs r) (nbs u) (k1 ++ k2) []) 14 = wrB 6 a (nbs r) (nbs u) := by rw [lk]; simp [allK, codeR]
 have k1' : lookB (sF a (nbs r) (nbs u) (k1 ++ k2) []) 1 = wrB 0 a (nbs r) (nbs u) := by rw [lk]; simp [allK, codeR]
 have k2' : lookB (sF a (nbs r) (nbs u) (k1 ++ k2) []) 2 = wrB 1 a (nbs r) (nbs u) := by rw [lk]; simp [allK, codeR]
 unfold rdQ rdO
 rw [hall]
 simp only []
 rw [k14, k1', k2', wr_at.1, wr_at.2.1, wr_at.2.2, hd]
 by_cases hn : 0 < r.length
 · have hR := nbs_pos.2 hn
   rw [decide_eq_true (show ((nbs r).length : Int) > 0 by omega), dF_full h.va h.gr h.gu h.kr h.ku hn]; rfl
 · have h0 : r = [] := List.length_eq_zero_iff.1 (by omega)
   subst h0
   rw [decide_eq_false (show ¬ ((nbs ([] : List SV)).length : Int) > 0 by decide), dF_zero h.va h.gu h.ku rfl (azero_fl (h.z rfl)), azero_fin (h.z rfl)]; rfl
theorem Vd.known {k1 k2 : List Nat} (hp : (k1 ++ k2).Perm (wk a (nbs r) (nbs u))) {c : Int} {v : List SV} (hv : v.length ≤ 60) :
  rdQ ((rowsB a (nbs r) (nbs u) k1 ++ (unk c v ++ rowsB a (nbs r) (nbs u) k2)).set (rowsB a (nbs r) (nbs u) k1).length (.int .u8 64)) ((rowsB a (nbs r) (nbs u) k1 ++ (unk c v ++ rowsB a (nbs r) (nbs u) k2)).set (rowsB a (nbs r) (nbs u) k1).length (.int .u8 64)).length = (17, ((rowsB a (nbs r) (nbs u) k1).length : Int), dI0) := by
 have hvl := h.vl lr lu
 have h9 : ∀ k ∈ k1 ++ k2, k ≤ 9 := fun k hk => (wk_9 (hp.mem_iff.1 hk)).1
 have hnd : ((k1 ++ k2).map codeR).Nodup := (hp.map codeR).nodup_iff.2 (wk_nodup _ _ _)
 rw [List.map_append, List.nodup_append] at hnd
 obtain ⟨n1, n2, n3⟩ := hnd
 have hs : (rowsB a (nbs r) (nbs u) k1 ++ (unk c v ++ rowsB a (nbs r) (nbs u) k2)).set (rowsB a (nbs r) (nbs u) k1).length (.int .u8 64) = rowsB a (nbs r) (nbs u) k1 ++ (atB 64 (IntKind.u8.wrap (w64 (100 + pck c 100))) v ++ rowsB a (nbs r) (nbs u) k2) := by
  rw [List.set_append_right _ _ (by omega), Nat.sub_self, atB_short (by omega)]; rfl
 rw [hs]
 generalize hes : rowsB a (nbs r) (nbs u) k1 ++ (atB 64 (IntKind.u8.wrap (w64 (100 + pck c 100))) v ++ rowsB a (nbs r) (nbs u) k2) = es
 obtain ⟨y, hy⟩ := rows_pre (es := es) hvl h.oks k1 [] 0 [] zI (by rw [← hes]; rfl) (fun k hk => h9 k (by simp [hk])) n1 (fun _ _ => rfl)
 rw [List.nil_append, show ([] : List SV).length = 0 from rfl] at hy
 obtain ⟨p1, p2, p3, p4, p5, p6⟩ := at_parts (es := es) (pre := rowsB a (nbs r) (nbs u) k1) (post := rowsB a (nbs r) (nbs u) k2) hes.symm (.inl rfl) (by omega)
 have d0 : dg es (rowsB a (nbs r) (nbs u) k1).length = 64 := by
  rw [← hes]
  have := dg_app (pre := rowsB a (nbs r) (nbs u) k1) (l := atB 64 (IntKind.u8.wrap (w64 (100 + pck c 100))) v ++ rowsB a (nbs r) (nbs u) k2) 0
  rw [Nat.add_zero] at this
  rw [this, atB_short (by omega)]; rfl
 have hu := attL_u17 (lk := lookB) (st := stK) (at_ := y) (s := sF a (nbs r) (nbs u) k1 []) (z := zF a (nbs r) (nbs u) k1 zI) p6 p4 (by rw [p1]; exact unk_no c) (by rw [d0]; rfl)
 have hall : attK es es.length 0 0 [] zI = (17, ((rowsB a (nbs r) (nbs u) k1).length : Int), sF a (nbs r) (nbs u) k1 [], zF a (nbs r) (nbs u) k1 zI) := hy.trans hu
 unfold rdQ rdO
 rw [hall]; rfl
theorem Vd.double {k : Nat} (hk : k ∈ wk a (nbs r) (nbs u)) : rdQ (allB a (nbs r) (nbs u) ++ putB k a (nbs r) (nbs u)) (allB a (nbs r) (nbs u) ++ putB k a (nbs r) (nbs u)).length = (11, ((allB a (nbs r) (nbs u)).length : Int), dI0) := by
 have hvl := h.vl lr lu
 obtain ⟨h9, hw⟩ := wk_9 hk
 rw [← rowsB_all]
 generalize hes : rowsB a (nbs r) (nbs u) allK ++ putB k a (nbs r) (nbs u) = es
 obtain ⟨y, hy⟩ := rows_pre (es := es) hvl h.oks allK [] 0 [] zI (by rw [← hes]; rfl) (by decide) (by decide) (fun _ _ => rfl)
 rw [List.nil_append, show ([] : List SV).length = 0 from rfl] at hy
 have hp : putB k a (nbs r) (nbs u) = atB (flagR k) (codeR k) (valB k a (nbs r) (nbs u)) := by unfold putB; rw [hw]; rfl
 obtain ⟨f1, f2, f3, f4⟩ := fit_row k h9
 obtain ⟨p1, p2, p3, p4, p5, p6⟩ := at_parts (es := es) (pre := rowsB a (nbs r) (nbs u) allK) (post := []) (by rw [← hes, hp, List.append_nil]) f1 (hvl k)
 have hd := attL_dbl (lk := lookB) (st := stK) (at_ := y) (s := sF a (nbs r) (nbs u) allK []) (z := zF a (nbs r) (nbs u) allK zI) p6 p4 (by rw [p1]; exact f2) (by rw [p1]; rcases p2 with e | e <;> rw [e] <;> assumption) (by
  rw [p1, sF_lk]
  show (false || allK.any _) = true
  rw [Bool.false_or, List.any_eq_true]
  exact ⟨k, (List.mem_filter.1 hk).1, by rw [hw]; simp⟩)
 have hall := hy.trans hd
 unfold rdQ rdO
 rw [hall]; rfl
omit h lr lu in
theorem last_row (a : At) (R U : List SV) : ∃ ks k, k ≤ 9 ∧ k ≠ 1 ∧ wrB k a R U = true ∧ rowsB a R U allK = rowsB a R U ks ++ putB k a R U ∧ (∀ j ∈ ks, j ≤ 9) ∧ (ks.map codeR).Nodup := by
 have no : ∀ k, wrB k a R U = false → putB k a R U = [] := fun k h => by unfold putB; rw [h]; rfl
 cases h9 : wrB 9 a R U with
 | true => exact ⟨[0, 1, 2, 3, 4, 5, 6, 7, 8], 9, by decide, by decide, h9, by simp [allK, rowsB, List.append_assoc], by decide, by decide⟩
 | false =>
 cases h8 : wrB 8 a R U with
 | true => exact ⟨[0, 1, 2, 3, 4, 5, 6, 7], 8, by decide, by decide, h8, by simp [allK, rowsB, List.append_assoc, no 9 h9], by decide, by decide⟩
 | false =>
 cases h7 : wrB 7 a R U with
 | true => exact ⟨[0, 1, 2, 3, 4, 5, 6], 7, by decide, by decide, h7, by simp [allK, rowsB, List.append_assoc, no 9 h9, no 8 h8], by decide, by decide⟩
 | false =>
  have h6 : wrB 6 a R U = true := by
   have h7 : (bif decide ((U.length : Int) > 0) then true else (R.length : Int) == 0) = false := h7
   show decide ((R.length : Int) > 0) = true
   by_cases hR : (R.length : Int) > 0
   · exact decide_eq_true hR
   · rw [show ((R.length : Int) == 0) = true by rw [beq_iff_eq]; omega] at h7
     cases hq : decide ((U.length : Int) > 0) <;> rw [hq] at h7 <;> cases h7
  exact ⟨[0, 1, 2, 3, 4, 5], 6, by decide, by decide, h6, by simp [allK, rowsB, List.append_assoc, no 9 h9, no 8 h8, no 7 h7], by decide, by decide⟩
theorem Vd.cut {es : List SV} (hes : es = (allB a (nbs r) (nbs u)).take ((allB a (nbs r) (nbs u)).length - 1)) : ∃ y : Int, y < ((allB a (nbs r) (nbs u)).length : Int) ∧ rdQ es es.length = (4, y, dI0) := by
 have hvl := h.vl lr lu
 obtain ⟨ks, k, h9, h1, hw, hr, hk9, hnd⟩ := last_row a (nbs r) (nbs u)
 rw [← rowsB_all, hr] at hes ⊢
 have hp : putB k a (nbs r) (nbs u) = atB (flagR k) (codeR k) (valB k a (nbs r) (nbs u)) := by unfold putB; rw [hw]; rfl
 have hge := atB_ge (flagR k) (codeR k) (valB k a (nbs r) (nbs u))
 rw [← hp] at hge
 have hv0 : 0 < (valB k a (nbs r) (nbs u)).length := List.length_pos_iff.2 (val_ne k h1 h9 hw)
 obtain ⟨f1, f2, f3, f4⟩ := fit_row k h9
 obtain ⟨p1, p2, p3, p4, p5, p6⟩ := at_parts (es := rowsB a (nbs r) (nbs u) ks ++ putB k a (nbs r) (nbs u)) (pre := rowsB a (nbs r) (nbs u) ks) (post := []) (by rw [hp, List.append_nil]) f1 (hvl k)
 rw [← hp] at p3
 generalize hB : rowsB a (nbs r) (nbs u) ks ++ putB k a (nbs r) (nbs u) = B at *
 have hL : B.length = (rowsB a (nbs r) (nbs u) ks).length + (putB k a (nbs r) (nbs u)).length := by rw [← hB, List.length_append]
 have hel : es.length = B.length - 1 := by rw [hes, List.length_take]; omega
 have hes2 : es = rowsB a (nbs r) (nbs u) ks ++ (putB k a (nbs r) (nbs u)).take ((putB k a (nbs r) (nbs u)).length - 1) := by
  rw [hes, ← hB, List.take_append, List.take_of_length_le (by rw [List.length_append]; omega)]
  congr 2
  rw [List.length_append]; omega
 obtain ⟨y, hy⟩ := rows_pre (es := es) hvl h.oks ks [] 0 [] zI hes2 hk9 hnd (fun _ _ => rfl)
 rw [List.nil_append, show ([] : List SV).length = 0 from rfl] at hy
 have hdg : ∀ j, j < es.length → dg es j = dg B j := fun j hj => by
  rw [hes]
  unfold dg
  rw [List.getD_eq_getElem?_getD, List.getElem?_take, if_pos (by omega), List.getD_eq_getElem?_getD]
 have hh : hdN es (rowsB a (nbs r) (nbs u) ks).length = hdN B (rowsB a (nbs r) (nbs u) ks).length := by
  unfold hdN; rw [hdg _ (by omega)]
 have hno : ¬ okN es (rowsB a (nbs r) (nbs u) ks).length es.length := by
  rintro ⟨q1, q2⟩
  have hln : lnN es (rowsB a (nbs r) (nbs u) ks).length = lnN B (rowsB a (nbs r) (nbs u) ks).length := by
   unfold lnN
   rw [hh]
   have ht : ∀ m, (rowsB a (nbs r) (nbs u) ks).length + 2 + m ≤ es.length → tkN es ((rowsB a (nbs r) (nbs u) ks).length + 2) m = tkN B ((rowsB a (nbs r) (nbs u) ks).length + 2) m := by
    intro m
    induction m with
    | zero => exact fun _ => rfl
    | succ m ih => exact fun hm => by rw [tkN, tkN, ih (by omega), hdg _ (by omega)]
   have h3 : 3 ≤ hdN B (rowsB a (nbs r) (nbs u) ks).length := hdN_ge
   rw [ht _ (by rw [hh] at q1; omega)]
  unfold vE at p3
  rw [hh, hln] at q2
  omega
 have hc := attL_cut (lk := lookB) (st := stK) (at_ := y) (s := sF a (nbs r) (nbs u) ks []) (z := zF a (nbs r) (nbs u) ks zI) (show (rowsB a (nbs r) (nbs u) ks).length < es.length by omega) hno
 have hall := hy.trans hc
 refine ⟨((rowsB a (nbs r) (nbs u) ks).length : Int), by omega, ?_⟩
 unfold rdQ rdO
 rw [hall]; rfl
end
end Go.Proofs.YtdgnhaacdpmclaaGreat
