/- Attributes are read: the main loop, known. -/
import Derived.Test.YtnlmhpancboddaaGreatPart13
import Derived.Test.YtnlmhpancboddaaGreatMachine7
set_option linter.unusedVariables false
set_option linter.unusedSimpArgs false
namespace Go.Proofs.YtnlmhpancboddaaGreat
open Go.Am
set_option maxRecDepth 100000
def Goes (H : HpL) (t : CTree) (v' : SV) (ups' : List (Nat × Option Chunk)) : Prop :=
 (∃ ups, crun t = some (v', ups) ∧ ∀ x, updF ups' H.get x = updF ups H.get x) ∨ (∃ v ups, crun t = some (v, ups) ∧ Renamed H v ups v' ups') ∨ (∃ v ups, crun t = some (v, ups) ∧ ToldL Tryz.prog H v ups v' ups')
theorem p4a {h : HpF} {a b c e : Option Chunk} : ∀ x, updF [(0, a), (7, b), (17, c), (18, e)] h x = updF [(17, c), (7, b), (0, a), (18, e)] h x := by
 intro x
 simp only [updF]
 by_cases h18 : x = 18
 · simp only [h18, if_true]
 · by_cases h17 : x = 17
   · subst h17; rfl
   · by_cases h7 : x = 7
     · subst h7; rfl
     · simp only [h18, h17, h7, if_false]
theorem p4b {h : HpF} {a b c e : Option Chunk} : ∀ x, updF [(0, a), (7, b), (17, c), (18, e)] h x = updF [(7, b), (17, c), (0, a), (18, e)] h x := by
 intro x
 simp only [updF]
 by_cases h18 : x = 18
 · simp only [h18, if_true]
 · by_cases h17 : x = 17
   · subst h17; rfl
   · by_cases h7 : x = 7
     · subst h7; rfl
     · simp only [h18, h17, h7, if_false]
theorem told_drop {H : HpL} {v : SV} {c : Int} {vs : List SV} (hv : v = .tup (.int .i64 c :: vs)) : ToldL Tryz.prog H v [] v [(7, none), (17, none), (18, none)] := by
 refine ⟨c, vs, vs, hv, hv, .rfl', fun x c' hx => ⟨c', ?_, .rfl'⟩⟩
 simp only [updF] at hx ⊢
 by_cases h18 : x = 18
 · rw [if_pos h18] at hx; cases hx
 · rw [if_neg h18] at hx
   by_cases h17 : x = 17
   · rw [if_pos h17] at hx; cases hx
   · rw [if_neg h17] at hx
     by_cases h7 : x = 7
     · rw [if_pos h7] at hx; cases hx
     · rw [if_neg h7] at hx; exact hx
theorem co_nz {b : Bool} {e : Nat} {l : List SV} (h : b = true → l = []) : CoV Tryz.prog (nz b e l) (.psl e l) := by
 cases b with
 | true => rw [h rfl]; exact .nils
 | false => exact .rfl'
theorem co_zC {z : Dz} (h : nZ z = z) {x : Nat} : CoC Tryz.prog x (zC z) (dC false false false z.d) := by
 obtain ⟨h1, h2, h3⟩ := nZ_iff.1 h
 exact .cells (.cons .rfl' (.cons (co_nz h1) (.cons .rfl' (.cons .rfl' (.cons .rfl' (.cons .rfl' (.cons .rfl' (.cons .rfl' (.cons .rfl' (.cons (co_nz h2) (.cons (co_nz h3) .rfl')))))))))))
section
variable {N a n : Nat} {es : List SV} {at_ : Int} {kvs : List (Int × Bool)} {pb cb mb : Bool} {d : Ds} {v' : SV} {ups' : List (Nat × Option Chunk)}
variable (hm : mOk a n es kvs ⟨pb, cb, mb, d⟩) (hN : n - a + 1 < N + 1) (h : crun (mEnd (attK es n a at_ kvs ⟨pb, cb, mb, d⟩) n) = some (v', ups'))
theorem end_bad {er at' : Int} {s : List (Int × Bool)} {z : Dz} (he : (er == 0) = false) (h : crun (mEnd (er, at', s, z) n) = some (v', ups')) : v' = .tup [.int .i64 2, .ptr 0 0, .mp 17] ∧ ups' = [(0, some (.cells 28 [.int .i64 er, .int .i64 at'])), (7, none), (17, none), (18, none)] := by
 unfold mEnd at h
 rw [crun_ite] at h
 simp only [he, cond_false] at h
 cases h; exact ⟨rfl, rfl⟩
theorem bad_go {er at' : Int} {c : Chunk} {r : Rd} {K : CTree} (hN : 0 < N) : mBad N er at' c kvs r n es K = K := by
 unfold mBad
 rw [show Nat.blt 0 N = true by rw [Nat.blt_eq]; exact hN, dec_iff.2 rfl]; rfl
theorem go_go {b : Nat} {at' : Int} {z : Dz} {K : Int × Int × List (Int × Bool) × Dz → CTree} (hN : n - b + 1 < N) (hz : nZ z = z) (hm : mOk b n es kvs z) : mGo N at' z kvs (RD b n) n es K = K (attK es n b at' kvs z) := by
 unfold mGo
 rw [hz, show Nat.blt (n - (RD b n).at_.toNat + 1) N = true by rw [Nat.blt_eq]; exact hN, dec_iff.2 ⟨rfl, hm⟩]; rfl
theorem mK_goes {o : Int × Int × List (Int × Bool) × Dz} {H : HpL} (h : crun (mEnd o n) = some (v', ups')) : Goes H (mK o) v' ups' := by
 refine .inl ?_
 unfold mEnd at h
 rw [crun_ite] at h
 unfold mK
 cases ho : o.1 == 0 with
 | true => rw [ho] at h; cases h; exact ⟨_, rfl, p4a⟩
 | false => rw [ho] at h; cases h; exact ⟨_, rfl, p4a⟩
include hm hN h
theorem goes_cut (hlt : a < n) (ho : ¬ okN es a n) : Goes (mH 0 at_ (dC pb cb mb d) kvs (RD a n) n es) (mOnce N nc_s mArg (mH 0 at_ (dC pb cb mb d) kvs (RD a n) n es)) v' ups' := by
 obtain ⟨h1, h2, h3, h4, h5, h6, h7, h8⟩ := hm
 have hl : lfI (RD a n) = ((n - a : Nat) : Int) := by have := lfI_v (s := a) (t := n) (k := 0) (by omega) (by omega); simpa using this
 have hc : cdN es a n := ⟨hlt, h2, h3, h1.ok⟩
 rw [attK, attL_cut hlt ho] at h
 obtain ⟨rfl, rfl⟩ := end_bad (by decide) h
 have hrd := m_cut N at_ pb cb mb d kvs (RD a n) n es
 rw [hl, decide_eq_true (by omega), cond_true, dec_iff.2 ⟨rfl, hc, ho⟩, cond_true, bad_go (by omega)] at hrd
 rw [hrd]
 exact .inl ⟨_, rfl, p4a⟩
theorem goes_unk (hlt : a < n) (ho : okN es a n) (hk : knC (cdOf es a) = false) : Goes (mH 0 at_ (dC pb cb mb d) kvs (RD a n) n es) (loopOnce Tryz.prog κmu ιmu (ltab []) true 300 e9 { e9 with s := boundT mM m_s N } c9 mArg (mH 0 at_ (dC pb cb mb d) kvs (RD a n) n es)) v' ups' := by
 have hm0 := hm
 obtain ⟨h1, h2, h3, h4, h5, h6, h7, h8⟩ := hm
 have hl : lfI (RD a n) = ((n - a : Nat) : Int) := by have := lfI_v (s := a) (t := n) (k := 0) (by omega) (by omega); simpa using this
 have hc : cdN es a n := ⟨hlt, h2, h3, h1.ok⟩
 have hrd := m_unk N at_ pb cb mb d kvs (RD a n) n es
 rw [hl, decide_eq_true (by omega), cond_true, dec_iff.2 ⟨rfl, hc, ho, hk⟩, cond_true] at hrd
 simp only [show (RD a n).at_.toNat = a from rfl] at hrd
 rw [unkT_ok hk] at hrd
 have hE : vE es a ≤ n := ho.2
 have hE3 : a + 3 ≤ vE es a := by have := hdN_ge (es := es) (a := a); unfold vE; omega
 cases hf : andI .u8 (dg es a) 128 == 0 with
 | true =>
  rw [attK, attL_u17 hlt ho hk hf] at h
  obtain ⟨rfl, rfl⟩ := end_bad (by decide) h
  rw [hf, cond_true, bad_go (by omega)] at hrd
  rw [hrd]
  exact .inl ⟨_, rfl, p4a⟩
 | false =>
  rw [attK, attL_unk hlt ho hk hf] at h
  rw [hf, cond_false, go_go (by omega) h5 ⟨h1, h2, h3, hE, h5, h6, h7, h8⟩] at hrd
  rw [hrd]
  exact mK_goes h
theorem goes_kn {g : Int} {C : Prop} (hlt : a < n) (ho : okN es a n) (hg : cdOf es a = g) (hk : knC g = true) (hrd : mOnce N (nx_s g) mArg (mH 0 at_ (dC pb cb mb d) kvs (RD a n) n es) = mRd N g pb cb mb d kvs (RD a n) n es C)
  (hC : okV es n (vS es a) (vE es a) → dN pb cb mb d = d → lookB kvs g = false → C) : Goes (mH 0 at_ (dC pb cb mb d) kvs (RD a n) n es) (mOnce N (nx_s g) mArg (mH 0 at_ (dC pb cb mb d) kvs (RD a n) n es)) v' ups' := by
 have hm0 := hm
 obtain ⟨h1, h2, h3, h4, h5, h6, h7, h8⟩ := hm
 have hl : lfI (RD a n) = ((n - a : Nat) : Int) := by have := lfI_v (s := a) (t := n) (k := 0) (by omega) (by omega); simpa using this
 have hc : cdN es a n := ⟨hlt, h2, h3, h1.ok⟩
 have hE : vE es a ≤ n := ho.2
 have hE3 : a + 3 ≤ vE es a := by have := hdN_ge (es := es) (a := a); unfold vE; omega
 unfold mRd at hrd
 rw [hl, decide_eq_true (by omega), cond_true, dec_iff.2 ⟨rfl, hc, ho, hg⟩, cond_true] at hrd
 simp only [show (RD a n).at_.toNat = a from rfl] at hrd
 subst hg
 rw [hrd]
 clear hrd
 cases hf : fitC (cdOf es a) (dg es a) with
 | false =>
  rw [attK, attL_fit hlt ho hk hf] at h
  obtain ⟨rfl, rfl⟩ := end_bad (by decide) h
  rw [Bool.not_false, cond_true, bad_go (by omega)]
  exact .inl ⟨_, rfl, p4b⟩
 | true =>
  rw [Bool.not_true, cond_false]
  cases hlk : lookB kvs (cdOf es a) with
  | true =>
   rw [attK, attL_dbl hlt ho hk hf hlk] at h
   obtain ⟨rfl, rfl⟩ := end_bad (by decide) h
   rw [cond_true, bad_go (by omega)]
   exact .inl ⟨_, rfl, p4b⟩
  | false =>
   have hdn : dN pb cb mb d = d := by injection h5
   rw [cond_false, dec_iff.2 (hC ⟨h1, h2, h3, by unfold vS vE; omega, hE⟩ hdn hlk), cond_true]
   cases hv : okC (cdOf es a) (vl es (vS es a) (vE es a)) with
   | false =>
    rw [attK, attL_bad hlt ho hk hf hlk hv] at h
    obtain ⟨rfl, rfl⟩ := end_bad (by decide) h
    rw [cond_false, bad_go (by omega)]
    exact .inl ⟨_, rfl, p4a⟩
   | true =>
    rw [attK, attL_go hlt ho hk hf hlk hv] at h
    rw [cond_true, h5, go_go (by omega) (gC_nz hk _ h5) (mOk_next _ hk hm0 hE)]
    exact mK_goes h
end
end Go.Proofs.YtnlmhpancboddaaGreat
/- Attributes are read: the main loop is valid. -/
namespace Go.Proofs.YtnlmhpancboddaaGreat
open Go.Am
set_option maxRecDepth 100000
theorem m_valid : ValidL Tryz.prog e9 := loop_valid3 (T := ltab []) (sp := true) (fuel := 300) (c := c9) (μ := mM) mixTry ltab_nil (show fillC (ltab []) c9 = c9 by kernel_rfl) (by
 intro N args H v' ups' hbt h
 unfold e9 m_s at h
 simp only [] at h
 split at h
 · rename_i er at_ x1 x2 x3 x4 x5 x6 cs x8 x9 x10 x11 x12 x13 x14 x15 x16 kd kvs a e n re rf x18 es
   split at h
   · rename_i pb cb mb d hd
     rw [crun_ite] at h
     cases her : (er == 0) with
     | false =>
      rw [her, cond_false, crun_ite] at h
      cases hc : dec _ with
      | false => rw [hc] at h; cases h
      | true =>
       rw [hc, cond_true] at h
       have hH := dec_iff.1 hc
       rw [hH]
       have hx := m_x1 N er at_ pb cb mb d kvs ⟨a, e, re, rf⟩ n es
       rw [her, cond_false, cond_false] at hx
       cases h
       exact ⟨κma no_s, ιma, mOkT no_k, .inr (.inr ⟨_, _, congrArg crun hx, told_drop rfl⟩)⟩
     | true =>
      have he0 : er = 0 := by simpa using her
      subst he0
      rw [her, cond_true, crun_ite] at h
      cases hc : dec _ with
      | false => rw [hc] at h; cases h
      | true =>
       rw [hc, cond_true] at h
       obtain ⟨hH, hm⟩ := dec_iff.1 hc
       rw [hH] at hbt ⊢
       have hN : n - a.toNat + 1 < N + 1 := by
        have : Nat.blt (n - a.toNat + 1) (N + 1) = true := hbt
        rwa [Nat.blt_eq] at this
       generalize a.toNat = b at *
       by_cases hlt : b < n
       · by_cases ho : okN es b n
         · cases hk : knC (cdOf es b) with
           | false => exact ⟨κmu, ιmu, muOkT, goes_unk hm hN h hlt ho hk⟩
           | true =>
            refine ⟨κma (nx_s (cdOf es b)), ιma, mOkT (nx_k _), ?_⟩
            obtain ⟨p1, p2, p3, p4, p5, p6, p7, p8⟩ := hm
            have hm : mOk b n es kvs ⟨pb, cb, mb, d⟩ := ⟨p1, p2, p3, p4, p5, p6, p7, p8⟩
            rcases knC_of hk with hg | hg | hg | hg | hg | hg | hg | hg | hg | hg
            · rw [hg]; exact goes_kn hm hN h hlt ho hg rfl (m_1 N at_ pb cb mb d kvs (RD b n) n es) (fun q1 q2 q3 => ⟨by rw [q2], q1, .inl rfl⟩)
            · rw [hg]; exact goes_kn hm hN h hlt ho hg rfl (m_2 N at_ pb cb mb d kvs (RD b n) n es) (fun q1 q2 q3 => ⟨by rw [q2], q1, p6 q3⟩)
            · rw [hg]; exact goes_kn hm hN h hlt ho hg rfl (m_4 N at_ pb cb mb d kvs (RD b n) n es) (fun q1 q2 q3 => ⟨by rw [q2], q1, .inr (.inl rfl)⟩)
            · rw [hg]; exact goes_kn hm hN h hlt ho hg rfl (m_5 N at_ pb cb mb d kvs (RD b n) n es) (fun q1 q2 q3 => ⟨by rw [q2], q1, .inr (.inr (.inl rfl))⟩)
            · rw [hg]; exact goes_kn hm hN h hlt ho hg rfl (m_9 N at_ pb cb mb d kvs (RD b n) n es) (fun q1 q2 q3 => ⟨by rw [q2], q1, .inr (.inr (.inr rfl))⟩)
            · rw [hg]; exact goes_kn hm hN h hlt ho hg rfl (m_10 N at_ pb cb mb d kvs (RD b n) n es) (fun q1 q2 q3 => ⟨by rw [q2], q1, p7 q3⟩)
            · rw [hg]; exact goes_kn hm hN h hlt ho hg rfl (m_14 N at_ pb cb mb d kvs (RD b n) n es) (fun q1 q2 q3 => ⟨by rw [q2], q1, rfl⟩)
            · rw [hg]; exact goes_kn hm hN h hlt ho hg rfl (m_15 N at_ pb cb mb d kvs (RD b n) n es) (fun q1 q2 q3 => ⟨by rw [q2], q1, rfl⟩)
            · rw [hg]; exact goes_kn hm hN h hlt ho hg rfl (m_16 N at_ pb cb mb d kvs (RD b n) n es) (fun q1 q2 q3 => ⟨by rw [q2], q1, p8 q3⟩)
            · rw [hg]; exact goes_kn hm hN h hlt ho hg rfl (m_22 N at_ pb cb mb d kvs (RD b n) n es) (fun q1 q2 q3 => ⟨by rw [q2], q1, rfl⟩)
         · exact ⟨κma nc_s, ιma, mOkT nc_k, goes_cut hm hN h hlt ho⟩
       · obtain ⟨p1, p2, p3, p4, p5, p6, p7, p8⟩ := hm
         have hbn : b = n := by omega
         subst hbn
         have hl : lfI (RD b b) = 0 := by have := lfI_v (s := b) (t := b) (k := 0) (by omega) (by omega); simpa using this
         have hx := m_x1 N 0 at_ pb cb mb d kvs (RD b b) b es
         rw [hl] at hx
         rw [attK, attL_end hlt] at h
         unfold mEnd at h
         rw [crun_ite] at h
         cases h
         refine ⟨κma no_s, ιma, mOkT no_k, .inr (.inr ⟨_, _, congrArg crun hx, 2, _, _, rfl, rfl, .rfl', fun x c' hx => ?_⟩)⟩
         simp only [updF] at hx
         by_cases h18 : x = 18
         · rw [if_pos h18] at hx; cases hx
         · rw [if_neg h18] at hx
           by_cases h17 : x = 17
           · subst h17; rw [if_pos rfl] at hx; cases hx; exact ⟨_, rfl, .rfl'⟩
           · rw [if_neg h17] at hx
             by_cases h7 : x = 7
             · subst h7; rw [if_pos rfl] at hx; cases hx; exact ⟨_, rfl, co_zC p5⟩
             · rw [if_neg h7] at hx
               by_cases h0 : x = 0
               · subst h0; rw [if_pos rfl] at hx; cases hx; exact ⟨_, rfl, .rfl'⟩
               · rw [if_neg h0] at hx; exact ⟨c', hx, .rfl'⟩
   · rw [crun_ite] at h
     cases her : (er == 0) with
     | true => rw [her] at h; cases h
     | false =>
      rw [her, cond_false, crun_ite] at h
      cases hc : dec _ with
      | false => rw [hc] at h; cases h
      | true =>
       rw [hc, cond_true] at h
       have hH := dec_iff.1 hc
       rw [hH]
       have hx := m_x2 N er at_ kvs ⟨a, e, re, rf⟩ n es
       rw [her, cond_false, cond_false] at hx
       cases h
       exact ⟨κma no_s, ιma, mOkT no_k, .inr (.inr ⟨_, _, congrArg crun hx, told_drop rfl⟩)⟩
 · cases h)
end Go.Proofs.YtnlmhpancboddaaGreat
/- Attributes are read: attr.Read. -/
namespace Go.Proofs.YtnlmhpancboddaaGreat
open Go.Am
set_option maxRecDepth 100000
def dI0 : Ds := ⟨0, 0, 0, 0, 0, 0, 0, 0, 0, false, false, false, [], [], [], [], []⟩
def zI : Dz := ⟨true, true, true, dI0⟩
def dI : Chunk := .cells 177 [.int .i64 0, .nils, .int .u32 0, .bool false, .int .u32 0, .bool false, .int .u32 0, .bool false, .int .u32 0, .nils, .nils, .int .i64 0, .int .u32 0, .int .u32 0, .int .u32 0, .nils, .nils]
noncomputable def mi_s : CSumm := fun args H => match args, H with
 | [.ptr 0 0, .ptr 1 0, .mp 2, .mp 17, .ptr 18 0], [_, _, _, _, _, _, _, _, _, _, _, _, _, _, _, _, _, _, (18, .cells 157 [.int .i64 _, .int .i64 _, .qs 19 1 0 n, _, _, _]), (19, .seq 5 es)] =>
  .ite (dec (H = mH 0 0 dI [] (RD 0 n) n es ∧ byl es ∧ n = es.length ∧ n ≤ 1000000)) (mEnd (attK es n 0 0 [] zI) n) .fail
 | _, _ => .fail
theorem mOk0 {n : Nat} {es : List SV} (h1 : byl es) (h2 : n = es.length) (h3 : n ≤ 1000000) : mOk 0 n es [] zI := ⟨h1, h2, h3, Nat.zero_le _, rfl, fun _ => rfl, fun _ => rfl, fun _ => rfl⟩
theorem m_start {n : Nat} {es : List SV} (h1 : byl es) (h2 : n = es.length) (h3 : n ≤ 1000000) : crun (m_s mArg (mH 0 0 (zC zI) [] (RD 0 n) n es)) = crun (mEnd (attK es n 0 0 [] zI) n) := by
 show crun (.ite (0 == 0) (.ite (dec (mH 0 0 (zC zI) [] (RD 0 n) n es = mH 0 0 (zC zI) [] (RD 0 n) n es ∧ mOk 0 n es [] zI)) (mEnd (attK es n 0 0 [] zI) n) .fail) _) = _
 rw [crun_ite, show ((0 : Int) == 0) = true from rfl, cond_true, crun_ite, dec_iff.2 ⟨rfl, mOk0 h1 h2 h3⟩, cond_true]
theorem mH_get {er at_ : Int} {c : Chunk} {kvs : List (Int × Bool)} {r : Rd} {n : Nat} {es : List SV} {x : Nat} (h : x ≠ 7) (c' : Chunk) : (mH er at_ c kvs r n es).get x = (mH er at_ c' kvs r n es).get x := by
 simp only [mH, HpL.get]
 rw [show Nat.beq 7 x = false from nb_f (fun e => h e.symm)]
 rfl
theorem canon_mH {er at_ : Int} {c : Chunk} {kvs : List (Int × Bool)} {r : Rd} {n : Nat} {es : List SV} : Canon (mH er at_ c kvs r n es) := fun i p h => by
 have := canonB_spec (mH er at_ c kvs r n es) 0 rfl i p h
 omega
theorem mi_valid : ValidL Tryz.prog { e9 with s := mi_s } := loop_from m_valid (by
 intro args H v ups h hcan
 unfold mi_s at h
 split at h
 · rename_i y0 y1 y2 y3 y4 y5 y6 y7 y8 y9 y10 y11 y12 y13 y14 y15 y16 y17 q1 q2 n q3 q4 q5 es
   rw [crun_ite] at h
   cases hc : dec _ with
   | false => rw [hc] at h; cases h
   | true =>
    rw [hc, cond_true] at h
    obtain ⟨hH, h1, h2, h3⟩ := dec_iff.1 hc
    rw [hH] at hcan ⊢
    refine ⟨mArg, mH 0 0 (zC zI) [] (RD 0 n) n es, ups, (m_start h1 h2 h3).trans h, ⟨.rfl', canon_mH, rfl, fun x c hx => ?_, fun x c2 hx => ?_⟩, fun x => ?_⟩
    · by_cases h7 : x = 7
      · subst h7; cases hx
        exact ⟨_, rfl, .cells (.cons .rfl' (.cons .rfl' (.cons .rfl' (.cons .rfl' (.cons .rfl' (.cons .rfl' (.cons .rfl' (.cons .rfl' (.cons .rfl' (.cons .rfl' (.cons .rfl' (.cons .rfl' (.cons .rfl' (.cons .rfl' (.cons .rfl' (.cons .nils (.cons .nils .rfl')))))))))))))))))⟩
      · exact ⟨c, by rw [mH_get h7 dI]; exact hx, .rfl'⟩
    · by_cases h7 : x = 7
      · subst h7; exact ⟨_, rfl⟩
      · exact ⟨c2, by rw [mH_get h7 (zC zI)]; exact hx⟩
    · have h7 : ∀ (f g : HpF), (∀ y, y ≠ 7 → f y = g y) → updF ups f x = updF ups g x := by
        intro f g hfg
        unfold mEnd at h
        rw [crun_ite] at h
        cases ho : (attK es n 0 0 [] zI).1 == 0 with
        | true =>
         rw [ho] at h; cases h
         simp only [updF]
         by_cases x7 : x = 7
         · subst x7; rfl
         · rw [hfg x x7]
        | false =>
         rw [ho] at h; cases h
         simp only [updF]
         by_cases x7 : x = 7
         · subst x7; rfl
         · rw [hfg x x7]
      exact h7 _ _ (fun y hy => mH_get hy _)
 · cases h)
noncomputable abbrev T9 : LTab := ltab [("m", { e9 with s := mi_s })]
noncomputable abbrev m9 : Code := markC [(4, "m")] body9
noncomputable abbrev κr9 := openT Tryz.prog (tbl [(47, nr_s)]) 300 5
noncomputable abbrev ιr9 : Nat → Bool := fun g => inl (tbl [(47, nr_s)]) g && hasBody Tryz.prog g
noncomputable def rd_b : CSumm := bodyCL Tryz.prog κr9 ιr9 T9 true 300 Tryz.f76 m9
theorem rd_k0 : Known Tryz.prog 76 rd_b := ⟨⟨Tryz.f76, Tryz.func76, noNum_at noNumTry Tryz.func76, rfl⟩, bodyL_valid (openT_ok noNumTry mixTry (tbl_cons nr_k ok0) 300 5) mixTry (ltab_cons mi_valid ltab_nil) Tryz.func76 (show Tryz.f76.body = some (fillC T9 m9) by kernel_rfl)⟩
def aI : SV := .agg [.int .i64 0, .nils, .int .u32 0, .bool false, .int .u32 0, .bool false, .int .u32 0, .bool false, .int .u32 0, .nils, .nils, .int .i64 0, .int .u32 0, .int .u32 0, .int .u32 0]
def aD (d : Ds) : SV := .agg [.int .i64 d.ori, .psl 36 d.path, .int .u32 d.nx, .bool d.hm, .int .u32 d.med, .bool d.hp, .int .u32 d.prf, .bool d.ho, .int .u32 d.orr, .psl 37 d.cl, .psl 136 d.cm, .int .i64 d.tk, .int .u32 d.tl, .int .u32 d.tr, .int .u32 d.tg]
def fltR (e a : Int) : CTree := .ret (.tup [aI, .nils, .nils, .agg [.int .i64 e, .int .i64 a]]) []
noncomputable def rdK (o : Int × Int × List (Int × Bool) × Dz) (n : Nat) : CTree :=
 bif o.1 == 0 then bif (bif lookB o.2.2.1 14 then !(bif lookB o.2.2.1 1 then lookB o.2.2.1 2 else false) else false) then fltR 17 n
  else bif !(lookB o.2.2.1 14) then .ret (.tup [aI, .nils, .psl 88 o.2.2.2.d.unr, .agg [.int .i64 0, .int .i64 0]]) []
  else .ret (.tup [aD o.2.2.2.d, .psl 88 o.2.2.2.d.rch, .psl 88 o.2.2.2.d.unr, .agg [.int .i64 0, .int .i64 0]]) []
 else bif o.1 == 0 then .fail else bif o.1 != 0 then fltR o.1 o.2.1 else .fail
noncomputable def rdO {σ : Type} (lk : σ → Int → Bool) (o : Int × Int × σ × Dz) (n : Nat) : Int × Int × Ds :=
 bif o.1 == 0 then bif lk o.2.2.1 14 then bif (bif lk o.2.2.1 1 then lk o.2.2.1 2 else false) then (0, 0, o.2.2.2.d) else (17, n, dI0)
  else (0, 0, { dI0 with unr := o.2.2.2.d.unr })
 else (o.1, o.2.1, dI0)
noncomputable abbrev rdQ (es : List SV) (n : Nat) : Int × Int × Ds := rdO lookB (attK es n 0 0 [] zI) n
def rdV (q : Int × Int × Ds) : SV := .tup [aD q.2.2, .psl 88 q.2.2.rch, .psl 88 q.2.2.unr, .agg [.int .i64 q.1, .int .i64 q.2.1]]
theorem co_aI : CoV Tryz.prog aI (aD dI0) := .agg (.cons .rfl' (.cons .nils (.cons .rfl' (.cons .rfl' (.cons .rfl' (.cons .rfl' (.cons .rfl' (.cons .rfl' (.cons .rfl' (.cons .nils (.cons .nils .rfl')))))))))))
end Go.Proofs.YtnlmhpancboddaaGreat
/- Lists are the same. -/
namespace Go.Proofs.YtnlmhpancboddaaGreat
open Go.Am
set_option maxRecDepth 100000
end Go.Proofs.YtnlmhpancboddaaGreat
/- AttrRead: attributes are the same; bytes are copied, and written over. -/
namespace Go.Proofs.YtnlmhpancboddaaGreat
open Go.Am
set_option maxRecDepth 100000
end Go.Proofs.YtnlmhpancboddaaGreat
/- Messages: readers of what is known by content; markers; heads. -/
namespace Go.Proofs.YtnlmhpancboddaaGreat
open Go.Am
set_option maxRecDepth 100000
theorem u16_n : Known Tryz.prog 48 (un_s 2) := un_of Tryz.func48 rfl (by decide) (fun r n es => by kernel_rfl)
theorem nrp_t (es : List SV) : opn (tbl []) Tryz.f47 [.psl 5 es] [] = bif lenO (([] : List SV).length + es.length) then .ret (.ptr 0 0) [(0, some (.cells 157 [.int .i64 0, .int .i64 es.length, .qs 1 1 0 (([] : List SV).length + es.length), .int .i64 0, .int .i64 0, .bool true])), (1, some (.seq 5 ([] ++ es)))] else .fail := by kernel_rfl
def nrp_s : CSumm := fun args H => match args, H with
 | [.psl 5 es], [] => .ite (decide (es.length ≤ 1000000)) (.ret (.ptr 0 0) [(0, some (.cells 157 [.int .i64 0, .int .i64 es.length, .qs 1 1 0 es.length, .int .i64 0, .int .i64 0, .bool true])), (1, some (.seq 5 es))]) .fail
 | _, _ => .fail
theorem nrp_k : Known Tryz.prog 47 nrp_s := (openKnown ok0 Tryz.func47 rfl).weak (by
 intro args H v ups h
 unfold nrp_s at h
 split at h
 · rename_i es
   rw [crun_ite] at h
   cases hc : decide (es.length ≤ 1000000) with
   | false => rw [hc] at h; cases h
   | true =>
    rw [hc] at h
    have h1 := of_decide_eq_true hc
    rw [nrp_t, List.length_nil, Nat.zero_add, lenO_t h1, cond_true]
    exact h
 · cases h)
theorem inB_ok {i : Int} {n : Nat} (h0 : 0 ≤ i) (h1 : i < n) : inB i n = true := by unfold inB; rw [decide_eq_true h0, decide_eq_true h1]; rfl
/- Markers. -/
def mkd : List SV → Bool
 | [] => true
 | x :: xs => bif asI x != 255 then false else mkd xs
noncomputable def body50 : Code := Tryz.f50.body.getD .skip
noncomputable def c50 : Code := (loopAt 2 body50).getD .skip
noncomputable def mk_s : CSumm := fun args H => match args, H with
 | [.psl 5 p, .int .i64 n, .int .i64 i], [] => .ite (dec (n = p.length ∧ 0 ≤ i ∧ i ≤ n ∧ n ≤ 1000000)) (.ite (mkd (p.drop i.toNat)) (.ret (.tup [.int .i64 2, .junk]) []) (.ret (.tup [.int .i64 1, .bool false]) [])) .fail
 | _, _ => .fail
def mkM : List SV → HpL → Nat
 | [_, .int _ n, .int _ i], _ => (n - i).toNat
 | _, _ => 0
noncomputable def e50 : LEnt := { ins := [5, 6, 7], outs := [2], keep := [], size := 14, code := c50, s := mk_s }
theorem mk_t (N : Nat) (p : List SV) (n i : Int) : loopOnce Tryz.prog (openT Tryz.prog (tbl []) 300 5) (fun _ => false) (ltab []) true 300 e50 { e50 with s := boundT mkM mk_s N } c50 [.psl 5 p, .int .i64 n, .int .i64 i] [] =
 bif decide (i < n) then bif inB i p.length then bif asI (p.getD i.toNat .junk) != 255 then .ret (.tup [.int .i64 1, .bool false]) [] else
  bif Nat.blt (n - w64 (i + 1)).toNat N then bif dec (n = p.length ∧ 0 ≤ w64 (i + 1) ∧ w64 (i + 1) ≤ n ∧ n ≤ 1000000) then bif mkd (p.drop (w64 (i + 1)).toNat) then .ret (.tup [.int .i64 2, .junk]) [] else .ret (.tup [.int .i64 1, .bool false]) [] else .fail else .fail
 else .fail else .ret (.tup [.int .i64 2, .junk]) [] := by kernel_rfl
theorem mk_valid : ValidL Tryz.prog e50 := loop_valid2 (κ := openT Tryz.prog (tbl []) 300 5) (ι := fun _ => false) (T := ltab []) (sp := true) (fuel := 300) (c := c50) (μ := mkM) (openT_ok noNumTry mixTry ok0 300 5) mixTry ltab_nil (show fillC (ltab []) c50 = c50 by kernel_rfl) (by
 intro N args H v' ups' hbt h
 unfold e50 mk_s at h
 simp only [] at h
 split at h
 · rename_i p n i
   rw [crun_ite] at h
   cases hc : dec (n = p.length ∧ 0 ≤ i ∧ i ≤ n ∧ n ≤ 1000000) with
   | false => rw [hc] at h; cases h
   | true =>
    rw [hc, cond_true] at h
    obtain ⟨rfl, h0, h1, h2⟩ := dec_iff.1 hc
    have ht := mk_t N p p.length i
    have hN : Nat.blt ((p.length : Int) - i).toNat (N + 1) = true := hbt
    rw [Nat.blt_eq] at hN
    by_cases hi : i < p.length
    · rw [decide_eq_true hi, cond_true, inB_ok h0 hi, cond_true, show w64 (i + 1) = i + 1 from w64_id (by omega) (by omega), show Nat.blt ((p.length : Int) - (i + 1)).toNat N = true by rw [Nat.blt_eq]; omega, dec_iff.2 ⟨rfl, by omega, by omega, h2⟩, cond_true, cond_true] at ht
      have hd : mkd (p.drop i.toNat) = bif asI (p.getD i.toNat .junk) != 255 then false else mkd (p.drop (i + 1).toNat) := by
       rw [show (i + 1).toNat = i.toNat + 1 by omega, List.drop_eq_getElem_cons (show i.toNat < p.length by omega), mkd, List.getD_eq_getElem?_getD, List.getElem?_eq_getElem (show i.toNat < p.length by omega)]; rfl
      rw [hd] at h
      cases hx : asI (p.getD i.toNat .junk) != 255 with
      | true => rw [hx] at ht h; cases h; exact .inl ⟨_, congrArg crun ht, fun x => rfl⟩
      | false =>
       rw [hx] at ht h
       rw [cond_false] at ht h
       refine .inl ⟨ups', ?_, fun x => rfl⟩
       refine (congrArg crun ht).trans (Eq.trans ?_ h)
       rw [crun_cond, crun_ite]
    · rw [decide_eq_false hi, cond_false] at ht
      rw [List.drop_of_length_le (by omega)] at h
      cases h
      exact .inl ⟨_, congrArg crun ht, fun x => rfl⟩
 · cases h)
noncomputable abbrev T50 : LTab := ltab [("k", e50)]
noncomputable abbrev m50 : Code := markC [(2, "k")] body50
noncomputable def marked_b : CSumm := bodyCL Tryz.prog (openT Tryz.prog (tbl []) 300 5) (fun _ => false) T50 true 300 Tryz.f50 m50
theorem marked_k0 : Known Tryz.prog 50 marked_b := ⟨⟨Tryz.f50, Tryz.func50, noNum_at noNumTry Tryz.func50, rfl⟩, bodyL_valid (openT_ok noNumTry mixTry ok0 300 5) mixTry (ltab_cons mk_valid ltab_nil) Tryz.func50 (show Tryz.f50.body = some (fillC T50 m50) by kernel_rfl)⟩
theorem marked_t (p : List SV) : marked_b [.psl 5 p] [] = bif dec ((p.length : Int) = p.length ∧ (0 : Int) ≤ 0 ∧ (0 : Int) ≤ p.length ∧ (p.length : Int) ≤ 1000000) then bif mkd (p.drop (0 : Int).toNat) then .ret (.bool true) [] else .ret (.bool false) [] else .fail := by kernel_rfl
noncomputable def marked_s : CSumm := fun args H => match args, H with
 | [.psl 5 p], [] => .ite (dec (p.length ≤ 1000000)) (.ret (.bool (mkd p)) []) .fail
 | _, _ => .fail
theorem marked_k : Known Tryz.prog 50 marked_s := marked_k0.weak (by
 intro args H v ups h
 unfold marked_s at h
 split at h
 · rename_i p
   rw [crun_ite] at h
   cases hc : dec (p.length ≤ 1000000) with
   | false => rw [hc] at h; cases h
   | true =>
    rw [hc, cond_true] at h
    have h1 := dec_iff.1 hc
    refine (congrArg crun (marked_t p)).trans ?_
    rw [dec_iff.2 ⟨rfl, by omega, by omega, by omega⟩, cond_true, show p.drop (0 : Int).toNat = p from rfl]
    cases hm : mkd p <;> rw [hm] at h <;> exact h
 · cases h)
end Go.Proofs.YtnlmhpancboddaaGreat
