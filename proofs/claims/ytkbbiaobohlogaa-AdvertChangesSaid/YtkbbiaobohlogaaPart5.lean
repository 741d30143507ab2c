/- What is advertised: what is gone: the loop's round. -/
import Derived.Test.YtkbbiaobohlogaaPart4
import Derived.Test.YtkbbiaobohlogaaMachine8
set_option linter.unusedVariables false
set_option linter.unusedSimpArgs false
namespace Go.Proofs.Ytkbbiaobohlogaa
open Go.Am
set_option maxRecDepth 100000
def headOps : Code → List Oper
 | .seq (.region _ ops _) _ => ops.toList
 | _ => []
def restOf : Code → Code
 | .seq _ r => r
 | _ => .skip
theorem hasH_n (n : Nk) : ∀ {ks : List SV}, ksOk ks → hasH n.cs ks = dec (.agg n.cs ∈ ks)
 | [], _ => (dec_f (by simp)).symm
 | k :: ks, h => by
  have ih := hasH_n n (ks := ks) (fun k' hk' => h k' (List.mem_cons_of_mem _ hk'))
  have hk := kHit_n n (h k (List.mem_cons_self ..))
  simp only [hasH]
  rw [hk, ih, Bool.eq_iff_iff, Bool.or_eq_true, dec_iff, dec_iff, dec_iff, List.mem_cons]
def leftK (seen : List Nat) : List Nat → List SV → List SV
 | b :: bs, k :: ks => bif memN b seen then leftK seen bs ks else k :: leftK seen bs ks
 | _, _ => []
theorem memN_iff2 (x : Nat) (l : List Nat) : memN x l = true ↔ x ∈ l := memN_mem x l
theorem leftK_cons {b : Nat} {seen : List Nat} : ∀ {bs : List Nat} {ks : List SV}, ks.length = bs.length → bs.Nodup → b ∈ leftB seen bs → (leftK seen bs ks).Perm (ks.getD (idxN bs b) .junk :: leftK (b :: seen) bs ks)
 | [], _, _, _, h => by simp [leftB] at h
 | a :: bs, [], h, _, _ => by simp at h
 | a :: bs, k :: ks, h, hn, hb => by
  have hn2 := (List.nodup_cons.1 hn)
  by_cases hab : a = b
  · subst hab
    have hs : memN a seen = false := by
     simp only [leftB] at hb
     cases hm : memN a seen with
     | false => rfl
     | true =>
      rw [hm, cond_true] at hb
      have : ∀ (l : List Nat), a ∈ leftB seen l → a ∈ l := by
       intro l
       induction l with
       | nil => intro h; simp [leftB] at h
       | cons x l ih =>
        intro h
        simp only [leftB] at h
        cases hx : memN x seen with
        | true => rw [hx, cond_true] at h; exact List.mem_cons_of_mem _ (ih h)
        | false =>
         rw [hx, cond_false] at h
         rcases List.mem_cons.1 h with rfl | h
         · simp
         · exact List.mem_cons_of_mem _ (ih h)
      exact absurd (this bs hb) hn2.1
    have e1 : idxN (a :: bs) a = 0 := by simp [idxN]
    have e2 : memN a (a :: seen) = true := by simp [memN]
    simp only [leftK, hs, e1, e2, cond_false, cond_true, List.getD_cons_zero]
    have : ∀ (l : List Nat) (ks : List SV), a ∉ l → leftK seen l ks = leftK (a :: seen) l ks := by
     intro l
     induction l with
     | nil => intro ks _; cases ks <;> rfl
     | cons x l ih =>
      intro ks hx
      cases ks with
      | nil => rfl
      | cons k ks =>
       have hxa : x ≠ a := fun e => hx (by simp [e])
       have hm : memN x (a :: seen) = memN x seen := by simp [memN, nb_f hxa]
       simp only [leftK, hm, ih ks (fun h => hx (by simp [h]))]
    rw [this bs ks hn2.1]
  · have e1 : idxN (a :: bs) b = idxN bs b + 1 := by simp [idxN, nb_f hab]
    have e2 : memN a (b :: seen) = memN a seen := by simp [memN, nb_f hab]
    have hb2 : b ∈ leftB seen bs := by
     simp only [leftB] at hb
     cases hm : memN a seen with
     | true => rw [hm, cond_true] at hb; exact hb
     | false =>
      rw [hm, cond_false] at hb
      rcases List.mem_cons.1 hb with rfl | hb
      · exact absurd rfl hab
      · exact hb
    have ih := leftK_cons (ks := ks) (by simpa using h) hn2.2 hb2
    simp only [leftK, e1, e2, List.getD_cons_succ]
    cases memN a seen with
    | true => exact ih
    | false => exact (ih.cons k).trans (.swap _ _ _)
theorem leftB_less {b : Nat} {seen : List Nat} : ∀ {bs : List Nat}, bs.Nodup → b ∈ leftB seen bs → (leftB (b :: seen) bs).length < (leftB seen bs).length
 | [], _, h => by simp [leftB] at h
 | a :: bs, hn, hb => by
  have hn2 := (List.nodup_cons.1 hn)
  have le : ∀ (l : List Nat), (leftB (b :: seen) l).length ≤ (leftB seen l).length := by
   intro l
   induction l with
   | nil => simp [leftB]
   | cons x l ih =>
    simp only [leftB, memN]
    cases hx : Nat.beq x b <;> cases hy : memN x seen <;> simp <;> omega
  by_cases hab : a = b
  · subst hab
    simp only [leftB, memN]
    simp only [leftB] at hb
    cases hm : memN a seen with
    | true =>
     have : ∀ (l : List Nat), a ∈ leftB seen l → a ∈ l := by
      intro l
      induction l with
      | nil => intro h; simp [leftB] at h
      | cons x l ih =>
       intro h
       simp only [leftB] at h
       cases hx : memN x seen with
       | true => rw [hx, cond_true] at h; exact List.mem_cons_of_mem _ (ih h)
       | false =>
        rw [hx, cond_false] at h
        rcases List.mem_cons.1 h with rfl | h
        · simp
        · exact List.mem_cons_of_mem _ (ih h)
     rw [hm, cond_true] at hb
     exact absurd (this bs hb) hn2.1
    | false =>
     have := le bs
     simp; omega
  · have hb2 : b ∈ leftB seen bs := by
      simp only [leftB] at hb
      cases hm : memN a seen with
      | true => rw [hm, cond_true] at hb; exact hb
      | false =>
       rw [hm, cond_false] at hb
       rcases List.mem_cons.1 hb with rfl | hb
       · exact absurd rfl hab
       · exact hb
    have ih := leftB_less (bs := bs) hn2.2 hb2
    simp only [leftB, memN, nb_f hab, Bool.false_or]
    cases memN a seen <;> simp <;> omega
theorem leftB_mem {b : Nat} {seen : List Nat} : ∀ {bs : List Nat}, b ∈ leftB seen bs → b ∈ bs
 | [], h => by simp [leftB] at h
 | x :: l, h => by
  simp only [leftB] at h
  cases hx : memN x seen with
  | true => rw [hx, cond_true] at h; exact List.mem_cons_of_mem _ (leftB_mem h)
  | false =>
   rw [hx, cond_false] at h
   rcases List.mem_cons.1 h with rfl | h
   · simp
   · exact List.mem_cons_of_mem _ (leftB_mem h)
noncomputable def goneL (ks2 l : List SV) : List (SV × SV) := (l.filter fun k => !dec (k ∈ ks2)).map fun k => (k, .agg [])
def goOk (seen bs : List Nat) (since last cl : Nat) (ks : List SV) (ks2 : List SV) (bs3 : List Nat) (cl3 : Nat) (ks3 vs3 : List SV) : Prop :=
 ageOk since last bs = true ∧ since ≤ cl ∧ bs.Nodup ∧ ks.length = bs.length ∧ ks.Nodup ∧ ksOk ks ∧ ksOk ks2 ∧ ksOk ks3 ∧ bs3.Nodup ∧ (∀ b ∈ bs3, b < cl3) ∧ bs3.length = ks3.length ∧ vs3.length = ks3.length ∧ ∀ k ∈ leftK seen bs ks, k ∉ ks3
noncomputable def go_s : CSumm := fun args H => match args, H with
 | [.ptr 0 0, .mp 2, .mp 3], [(0, .mit 1 since seen last), (1, .ext (.mpo 39 48 bs cl ks vs)), (2, .ext (.mpo 39 48 bs2 cl2 ks2 vs2)), (3, .ext (.mpo 39 65 bs3 cl3 ks3 vs3))] =>
  .ite (dec (goOk seen bs since last cl ks ks2 bs3 cl3 ks3 vs3)) (.ret (.tup [.int .i64 2, .mp 2, .mp 3]) [(3, some (.ext (.mpu 39 65 (ks3.zip vs3 ++ goneL ks2 (leftK seen bs ks))))), (0, none)]) .fail
 | _, _ => .fail
def goM : List SV → HpL → Nat
 | _, [(0, .mit _ _ seen _), (1, .ext (.mpo _ _ bs _ _ _)), _, _] => (leftB seen bs).length
 | _, _ => 0
noncomputable def body7 : Code := Try.f7.body.getD .skip
noncomputable def c7a : Code := (loopAt 4 body7).getD .skip
noncomputable def e7a : LEnt := { ins := [25, 7, 8], outs := [7, 8], keep := [4, 5, 6], size := 91, code := c7a, s := go_s }
noncomputable def o7a : Oper := (headOps c7a).headD default
noncomputable def os7a : List Oper := (headOps c7a).tail
noncomputable def r7a : Code := restOf c7a
noncomputable abbrev κ7 := tbl [(20, sap_s)]
theorem ok7 : KOk Try.prog κ7 := tbl_cons sap_k ok0
noncomputable abbrev A7 : List SV := [.ptr 0 0, .mp 2, .mp 3]
noncomputable abbrev H7 (since last : Nat) (seen bs : List Nat) (cl : Nat) (ks vs : List SV) (bs2 : List Nat) (cl2 : Nat) (ks2 vs2 : List SV) (bs3 : List Nat) (cl3 : Nat) (ks3 vs3 : List SV) : HpL :=
 [(0, .mit 1 since seen last), (1, .ext (.mpo 39 48 bs cl ks vs)), (2, .ext (.mpo 39 48 bs2 cl2 ks2 vs2)), (3, .ext (.mpo 39 65 bs3 cl3 ks3 vs3))]
noncomputable def ru7a (N : Nat) := roundU Try.prog κ7 (fun _ => false) 300 e7a { e7a with s := boundT goM go_s N } r7a o7a os7a 0 true A7
theorem c7a_eq : c7a = .seq (.region 4 (o7a :: os7a).toArray false) r7a := by kernel_rfl
theorem o7a_op : o7a.op = .next (.tmp 25) false := by kernel_rfl
theorem o7a_g : o7a.guard = none := by kernel_rfl
theorem nx7a (since last : Nat) (seen bs : List Nat) (cl : Nat) (ks vs : List SV) (bs2 : List Nat) (cl2 : Nat) (ks2 vs2 : List SV) (bs3 : List Nat) (cl3 : Nat) (ks3 vs3 : List SV) :
  nextOpts (loopSt true e7a A7 (H7 since last seen bs cl ks vs bs2 cl2 ks2 vs2 bs3 cl3 ks3 vs3)) (.tmp 25) = bif ageOk since last bs then some (0, optsB 1 since cl seen (leftB seen bs)) else none := by kernel_rfl
theorem ck7a (since last : Nat) (seen bs : List Nat) (cl : Nat) (ks vs : List SV) (bs2 : List Nat) (cl2 : Nat) (ks2 vs2 : List SV) (bs3 : List Nat) (cl3 : Nat) (ks3 vs3 : List SV) :
  loopChk e7a A7 (H7 since last seen bs cl ks vs bs2 cl2 ks2 vs2 bs3 cl3 ks3 vs3) = true := by kernel_rfl
theorem dk7a (since last : Nat) (seen bs : List Nat) (cl : Nat) (ks vs : List SV) (bs2 : List Nat) (cl2 : Nat) (ks2 vs2 : List SV) (bs3 : List Nat) (cl3 : Nat) (ks3 vs3 : List SV) :
  dstOk (loopSt true e7a A7 (H7 since last seen bs cl ks vs bs2 cl2 ks2 vs2 bs3 cl3 ks3 vs3)) o7a.dst = true := by kernel_rfl
theorem ru7a_end (N since last : Nat) (seen bs : List Nat) (cl : Nat) (ks vs : List SV) (bs2 : List Nat) (cl2 : Nat) (ks2 vs2 : List SV) (bs3 : List Nat) (cl3 : Nat) (ks3 vs3 : List SV) :
  ru7a N (H7 since last seen bs cl ks vs bs2 cl2 ks2 vs2 bs3 cl3 ks3 vs3) (.tup [.bool false], none) = .ret (.tup [.int .i64 2, .mp 2, .mp 3]) [(0, none)] := by kernel_rfl
noncomputable def goT (N since last : Nat) (seen bs : List Nat) (cl : Nat) (ks : List SV) (ks2 : List SV) (bs3 : List Nat) (cl3 : Nat) (ks3 vs3 : List SV) : CTree :=
 gd (Nat.blt (leftB seen bs).length N) (gd (dec (goOk seen bs since last cl ks ks2 bs3 cl3 ks3 vs3)) (.ret (.tup [.int .i64 2, .mp 2, .mp 3]) [(3, some (.ext (.mpu 39 65 (ks3.zip vs3 ++ goneL ks2 (leftK seen bs ks))))), (0, none)]))
theorem ru7a_t (N since last b : Nat) (seen bs : List Nat) (cl : Nat) (ks vs : List SV) (bs2 : List Nat) (cl2 : Nat) (ks2 vs2 : List SV) (bs3 : List Nat) (cl3 : Nat) (ks3 vs3 : List SV) :
  ru7a N (H7 since last seen bs cl ks vs bs2 cl2 ks2 vs2 bs3 cl3 ks3 vs3) (.tup [.bool true, .junk, .junk], some (.mit 1 since (b :: seen) cl)) =
 gd (Nat.beq cl cl && memN b bs) (gd (eqAll (nE (ks.getD (idxN bs b) .junk)).cs ks2) (bif hasH (nE (ks.getD (idxN bs b) .junk)).cs ks2 then goT N since cl (b :: seen) bs cl ks ks2 bs3 cl3 ks3 vs3
  else gd (eqAll (nE (ks.getD (idxN bs b) .junk)).cs ks3) (goT N since cl (b :: seen) bs cl ks ks2 (bif hasH (nE (ks.getD (idxN bs b) .junk)).cs ks3 then bs3 else bs3 ++ [cl3]) (bif hasH (nE (ks.getD (idxN bs b) .junk)).cs ks3 then cl3 else cl3 + 1)
   (bif hasH (nE (ks.getD (idxN bs b) .junk)).cs ks3 then ks3 else ks3 ++ [.agg (nE (ks.getD (idxN bs b) .junk)).cs]) (putO (nE (ks.getD (idxN bs b) .junk)).cs ks3 vs3 (.agg []) (.agg []))))) := by kernel_rfl
end Go.Proofs.Ytkbbiaobohlogaa
/- What is advertised: what is gone, known. -/
namespace Go.Proofs.Ytkbbiaobohlogaa
open Go.Am
set_option maxRecDepth 100000
theorem coc_mpo_mpu {P : Program} {x : Nat} {kt et : TypeId} {bs : List Nat} {cl : Nat} {ks vs : List SV} {m : List (SV × SV)} (hn : bs.Nodup) (hb : ∀ b ∈ bs, b < cl) (hp : m.Perm (ks.zip vs)) (hl : vs.length = ks.length) : CoC P x (.ext (.mpo kt et bs cl ks vs)) (.ext (.mpu kt et m)) := by
 intro ω w Im θ h
 obtain ⟨z1, z2⟩ := zip_parts hl
 exact ⟨bs, cl, ks.zip vs, hp, hn, hb, by rw [z1, z2]; exact h⟩
theorem coc_mpu {P : Program} {x : Nat} {kt et : TypeId} {m m' : List (SV × SV)} (hp : m'.Perm m) : CoC P x (.ext (.mpu kt et m)) (.ext (.mpu kt et m')) := by
 rintro ω w Im θ ⟨bs, cl, m1, h1, h2, h3, h4⟩
 exact ⟨bs, cl, m1, hp.trans h1, h2, h3, h4⟩
theorem coc_seq_sqm {P : Program} {x : Nat} {e : TypeId} {es es' : List SV} (hp : es'.Perm es) : CoC P x (.seq e es) (.ext (.sqm e es')) := by
 intro ω w Im θ h
 exact ⟨es, hp, h⟩
theorem coc_sqm {P : Program} {x : Nat} {e : TypeId} {es es' : List SV} (hp : es'.Perm es) : CoC P x (.ext (.sqm e es)) (.ext (.sqm e es')) := by
 rintro ω w Im θ ⟨e1, h1, h2⟩
 exact ⟨e1, hp.trans h1, h2⟩
theorem leftK_sub (seen : List Nat) : ∀ (bs : List Nat) (ks : List SV), (leftK seen bs ks).Sublist ks
 | [], ks => by simp [leftK]
 | _ :: _, [] => by simp [leftK]
 | b :: bs, k :: ks => by
  simp only [leftK]
  cases memN b seen with
  | true => exact (leftK_sub seen bs ks).cons k
  | false => exact (leftK_sub seen bs ks).cons_cons k
theorem leftK_nil {seen : List Nat} : ∀ {bs : List Nat} {ks : List SV}, leftB seen bs = [] → leftK seen bs ks = []
 | [], ks, _ => by simp [leftK]
 | _ :: _, [], _ => by simp [leftK]
 | b :: bs, k :: ks, h => by
  simp only [leftB] at h
  simp only [leftK]
  cases hm : memN b seen with
  | true => rw [hm] at h; exact leftK_nil h
  | false => rw [hm] at h; cases h
theorem idxN_lt {b : Nat} : ∀ {l : List Nat}, b ∈ l → idxN l b < l.length
 | [], h => by cases h
 | a :: l, h => by
  simp only [idxN]
  by_cases hab : a = b
  · subst hab; simp
  · have : b ∈ l := by
      rcases List.mem_cons.1 h with e | h
      · exact absurd e.symm hab
      · exact h
    have := idxN_lt this
    simp [nb_f hab]; omega
theorem goneL_perm {ks2 l l' : List SV} (h : l.Perm l') : (goneL ks2 l).Perm (goneL ks2 l') := (h.filter _).map _
theorem goneL_in {ks2 l : List SV} {k : SV} (h : k ∈ ks2) : goneL ks2 (k :: l) = goneL ks2 l := by
 unfold goneL
 rw [List.filter_cons, dec_iff.2 h]; rfl
theorem goneL_out {ks2 l : List SV} {k : SV} (h : k ∉ ks2) : goneL ks2 (k :: l) = (k, .agg []) :: goneL ks2 l := by
 unfold goneL
 rw [List.filter_cons, dec_f h]; rfl
theorem H7_three {since last : Nat} {seen bs : List Nat} {cl : Nat} {ks vs : List SV} {bs2 : List Nat} {cl2 : Nat} {ks2 vs2 : List SV} {bs3 : List Nat} {cl3 : Nat} {ks3 vs3 : List SV} : (H7 since last seen bs cl ks vs bs2 cl2 ks2 vs2 bs3 cl3 ks3 vs3).get 3 = some (.ext (.mpo 39 65 bs3 cl3 ks3 vs3)) := rfl
theorem go_told {H : HpL} {c : Chunk} {c' : Chunk} {u : List (Nat × Option Chunk)} (hu : (u = [(0, none)] ∧ H.get 3 = some c) ∨ u = [(3, some c), (0, none)]) (hc : CoC Try.prog 3 c c') :
  ChainL Try.prog H (.tup [.int .i64 2, .mp 2, .mp 3]) u (.tup [.int .i64 2, .mp 2, .mp 3]) [(3, some c'), (0, none)] := by
 refine .told ⟨2, [.mp 2, .mp 3], [.mp 2, .mp 3], rfl, rfl, .rfl', fun x d hx => ?_⟩
 simp only [updF] at hx
 by_cases h0 : x = 0
 · rw [if_pos h0] at hx; cases hx
 · rw [if_neg h0] at hx
   by_cases h3 : x = 3
   · rw [if_pos h3] at hx
     cases hx
     subst h3
     refine ⟨c, ?_, hc⟩
     rcases hu with ⟨rfl, h4⟩ | rfl
     · simp only [updF]; rw [if_neg h0]; exact h4
     · simp only [updF]; rw [if_neg h0]; rfl
   · rw [if_neg h3] at hx
     refine ⟨d, ?_, fun _ _ _ _ h => h⟩
     rcases hu with ⟨rfl, h4⟩ | rfl
     · simp only [updF]; rw [if_neg h0]; exact hx
     · simp only [updF]; rw [if_neg h0, if_neg h3]; exact hx
theorem goT_run {N since last : Nat} {seen bs : List Nat} {cl : Nat} {ks : List SV} {ks2 : List SV} {bs3 : List Nat} {cl3 : Nat} {ks3 vs3 : List SV} (h1 : (leftB seen bs).length < N) (h2 : goOk seen bs since last cl ks ks2 bs3 cl3 ks3 vs3) :
  crun (goT N since last seen bs cl ks ks2 bs3 cl3 ks3 vs3) = some (.tup [.int .i64 2, .mp 2, .mp 3], [(3, some (.ext (.mpu 39 65 (ks3.zip vs3 ++ goneL ks2 (leftK seen bs ks))))), (0, none)]) := by
 unfold goT
 rw [crun_gd (by rw [Nat.blt_eq]; exact h1), crun_gd (dec_iff.2 h2)]; rfl
theorem ageOk_next {since last cl : Nat} {bs : List Nat} (h : ageOk since last bs = true) (h2 : since ≤ cl) : ageOk since cl bs = true := by
 unfold ageOk at h ⊢
 simp only [Bool.and_eq_true] at h ⊢
 exact ⟨h.1, by rw [Nat.ble_eq]; exact h2⟩
theorem go_valid : ValidL Try.prog e7a := mapLoopU_valid (μ := goM) ok7 mixTry c7a_eq o7a_op o7a_g (by
 intro N args H v' ups' hb h
 unfold e7a go_s at h
 simp only [] at h
 split at h
 · rename_i since seen last bs cl ks vs bs2 cl2 ks2 vs2 bs3 cl3 ks3 vs3
   rw [crun_ite] at h
   cases hc : dec _ with
   | false => rw [hc] at h; cases h
   | true =>
    rw [hc, cond_true] at h
    have hok := dec_iff.1 hc
    obtain ⟨a1, a2, a3, a4, a5, a6, a7, a8, a9, a10, a11, a12, a13⟩ := id hok
    have hN : Nat.blt (leftB seen bs).length (N + 1) = true := hb
    rw [Nat.blt_eq] at hN
    cases h
    refine ⟨ck7a since last seen bs cl ks vs bs2 cl2 ks2 vs2 bs3 cl3 ks3 vs3, dk7a since last seen bs cl ks vs bs2 cl2 ks2 vs2 bs3 cl3 ks3 vs3, 0, _, (nx7a since last seen bs cl ks vs bs2 cl2 ks2 vs2 bs3 cl3 ks3 vs3).trans (by rw [a1]; rfl), fun p hp => ?_⟩
    rcases optsB_mem hp with ⟨hl, rfl⟩ | ⟨b, hbm, rfl⟩
    · refine ⟨_, _, congrArg crun (ru7a_end N since last seen bs cl ks vs bs2 cl2 ks2 vs2 bs3 cl3 ks3 vs3), ?_⟩
      refine go_told (.inl ⟨rfl, H7_three⟩) (coc_mpo_mpu a9 a10 ?_ a12)
      rw [leftK_nil hl]
      exact List.Perm.of_eq (List.append_nil _)
    · have ht := congrArg crun (ru7a_t N since last b seen bs cl ks vs bs2 cl2 ks2 vs2 bs3 cl3 ks3 vs3)
      have hbb := leftB_mem hbm
      have hlt := idxN_lt hbb
      have hperm := leftK_cons a4 a3 hbm
      have hless := leftB_less a3 hbm
      have hkm : ks.getD (idxN bs b) .junk ∈ ks := getD_mem (by omega)
      have hkn := a6 _ hkm
      generalize ks.getD (idxN bs b) .junk = k at *
      unfold kNrm at hkn
      generalize nE k = n at *
      subst hkn
      rw [crun_gd (by rw [Bool.and_eq_true]; exact ⟨Nat.beq_refl _, (memN_iff2 _ _).2 hbb⟩), crun_gd (eqAll_n n ks2 a7), crun_cond, hasH_n n a7] at ht
      have hleft : SV.agg n.cs ∈ leftK seen bs ks := hperm.mem_iff.2 (by simp)
      have hnd : (SV.agg n.cs :: leftK (b :: seen) bs ks).Nodup := hperm.nodup_iff.1 ((leftK_sub seen bs ks).nodup a5)
      have hsub : ∀ k' ∈ leftK (b :: seen) bs ks, k' ∈ leftK seen bs ks := fun k' hk' => hperm.mem_iff.2 (List.mem_cons_of_mem _ hk')
      have age := ageOk_next a1 a2
      by_cases hk2 : SV.agg n.cs ∈ ks2
      · rw [dec_iff.2 hk2, cond_true, goT_run (by omega) ⟨age, a2, a3, a4, a5, a6, a7, a8, a9, a10, a11, a12, fun k' hk' => a13 k' (hsub k' hk')⟩] at ht
        refine ⟨_, _, ht, go_told (.inr rfl) (coc_mpu ?_)⟩
        refine List.Perm.append_left _ ?_
        rw [← goneL_in (l := leftK (b :: seen) bs ks) hk2]
        exact goneL_perm hperm
      · have hk3 := a13 _ hleft
        rw [dec_f hk2, cond_false, crun_gd (eqAll_n n ks3 a8), hasH_n n a8, dec_f hk3] at ht
        simp only [cond_false] at ht
        have hput : putO n.cs ks3 vs3 (SV.agg []) (SV.agg []) = vs3 ++ [.agg []] := by
         unfold putO
         rw [hasH_n n a8, dec_f hk3]; rfl
        rw [hput] at ht
        have hcl : cl3 ∉ bs3 := fun hh => Nat.lt_irrefl _ (a10 _ hh)
        rw [goT_run (by omega) ⟨age, a2, a3, a4, a5, a6, a7, ?_, ?_, ?_, by simp [a11], by simp [a12], ?_⟩] at ht
        · refine ⟨_, _, ht, go_told (.inr rfl) (coc_mpu ?_)⟩
          rw [List.zip_append (by rw [a12])]
          simp only [List.zip_cons_cons, List.zip_nil_right, List.append_assoc, List.singleton_append]
          refine List.Perm.append_left _ ?_
          rw [← goneL_out (l := leftK (b :: seen) bs ks) hk2]
          exact goneL_perm hperm
        · intro k' hk'
          rcases List.mem_append.1 hk' with hk' | hk'
          · exact a8 k' hk'
          · rw [List.mem_singleton] at hk'; subst hk'; exact kNrm_agg n
        · rw [List.nodup_append]
          refine ⟨a9, by simp, fun x hx y hy => ?_⟩
          rw [List.mem_singleton] at hy
          subst hy
          intro e; subst e; exact hcl hx
        · intro x hx
          rcases List.mem_append.1 hx with hx | hx
          · have := a10 x hx; omega
          · rw [List.mem_singleton] at hx; omega
        · intro k' hk' hmem
          rcases List.mem_append.1 hmem with hm | hm
          · exact a13 k' (hsub k' hk') hm
          · rw [List.mem_singleton] at hm
            subst hm
            exact (List.nodup_cons.1 hnd).1 hk'
 · cases h)
end Go.Proofs.Ytkbbiaobohlogaa
/- What is advertised: what has not changed goes: the loop's round. -/
namespace Go.Proofs.Ytkbbiaobohlogaa
open Go.Am
set_option maxRecDepth 100000
def leftE (seen : List Nat) : List Nat → List SV → List SV → List (SV × SV)
 | b :: bs, k :: ks, v :: vs => bif memN b seen then leftE seen bs ks vs else (k, v) :: leftE seen bs ks vs
 | _, _, _ => []
def sameNA (x y : SV) : Prop := (rE x).n.cs = (rE y).n.cs ∧ (rE x).d.cs = (rE y).d.cs
noncomputable def keepE (l : List (SV × SV)) (e : Nat × SV × SV) : Bool := !dec (∃ x, (e.2.1, x) ∈ l ∧ sameNA x e.2.2)
def vOk (v : SV) : Prop := v = .agg (rE v).cs ∧ aNrm (rE v).d
def vsOk (vs : List SV) : Prop := ∀ v ∈ vs, vOk v
def zip3 : List Nat → List SV → List SV → List (Nat × SV × SV)
 | b :: bs, k :: ks, v :: vs => (b, k, v) :: zip3 bs ks vs
 | _, _, _ => []
def mpo3 (m : List (Nat × SV × SV)) (cl : Nat) : Chunk := .ext (.mpo 39 48 (m.map (·.1)) cl (m.map (·.2.1)) (m.map (·.2.2)))
def deOk (seen bs : List Nat) (since last cl : Nat) (ks vs : List SV) (bs2 : List Nat) (ks2 vs2 : List SV) : Prop :=
 ageOk since last bs = true ∧ since ≤ cl ∧ bs.Nodup ∧ ks.length = bs.length ∧ vs.length = bs.length ∧ ks.Nodup ∧ ksOk ks ∧ vsOk vs ∧ ks2.length = bs2.length ∧ vs2.length = bs2.length ∧ ks2.Nodup ∧ ksOk ks2 ∧ vsOk vs2
noncomputable def de_s : CSumm := fun args H => match args, H with
 | [.ptr 0 0, .mp 2], [(0, .mit 1 since seen last), (1, .ext (.mpo 39 48 bs cl ks vs)), (2, .ext (.mpo 39 48 bs2 cl2 ks2 vs2))] =>
  .ite (dec (deOk seen bs since last cl ks vs bs2 ks2 vs2)) (.ret (.tup [.int .i64 4, .mp 2]) [(2, some (mpo3 ((zip3 bs2 ks2 vs2).filter (keepE (leftE seen bs ks vs))) cl2)), (0, none)]) .fail
 | _, _ => .fail
def deM : List SV → HpL → Nat
 | _, [(0, .mit _ _ seen _), (1, .ext (.mpo _ _ bs _ _ _)), _] => (leftB seen bs).length
 | _, _ => 0
noncomputable def c7b : Code := (loopAt 10 body7).getD .skip
noncomputable def e7b : LEnt := { ins := [42, 7], outs := [7], keep := [4, 5, 8], size := 91, code := c7b, s := de_s }
noncomputable def o7b : Oper := (headOps c7b).headD default
noncomputable def os7b : List Oper := (headOps c7b).tail
noncomputable def r7b : Code := restOf c7b
noncomputable abbrev A7b : List SV := [.ptr 0 0, .mp 2]
noncomputable abbrev H7b (since last : Nat) (seen bs : List Nat) (cl : Nat) (ks vs : List SV) (bs2 : List Nat) (cl2 : Nat) (ks2 vs2 : List SV) : HpL :=
 [(0, .mit 1 since seen last), (1, .ext (.mpo 39 48 bs cl ks vs)), (2, .ext (.mpo 39 48 bs2 cl2 ks2 vs2))]
noncomputable def ru7b (N : Nat) := roundU Try.prog κ7 (fun _ => false) 300 e7b { e7b with s := boundT deM de_s N } r7b o7b os7b 0 true A7b
theorem c7b_eq : c7b = .seq (.region 10 (o7b :: os7b).toArray false) r7b := by kernel_rfl
theorem o7b_op : o7b.op = .next (.tmp 42) false := by kernel_rfl
theorem o7b_g : o7b.guard = none := by kernel_rfl
theorem nx7b (since last : Nat) (seen bs : List Nat) (cl : Nat) (ks vs : List SV) (bs2 : List Nat) (cl2 : Nat) (ks2 vs2 : List SV) :
  nextOpts (loopSt true e7b A7b (H7b since last seen bs cl ks vs bs2 cl2 ks2 vs2)) (.tmp 42) = bif ageOk since last bs then some (0, optsB 1 since cl seen (leftB seen bs)) else none := by kernel_rfl
theorem ck7b (since last : Nat) (seen bs : List Nat) (cl : Nat) (ks vs : List SV) (bs2 : List Nat) (cl2 : Nat) (ks2 vs2 : List SV) :
  loopChk e7b A7b (H7b since last seen bs cl ks vs bs2 cl2 ks2 vs2) = true := by kernel_rfl
theorem dk7b (since last : Nat) (seen bs : List Nat) (cl : Nat) (ks vs : List SV) (bs2 : List Nat) (cl2 : Nat) (ks2 vs2 : List SV) :
  dstOk (loopSt true e7b A7b (H7b since last seen bs cl ks vs bs2 cl2 ks2 vs2)) o7b.dst = true := by kernel_rfl
theorem ru7b_end (N since last : Nat) (seen bs : List Nat) (cl : Nat) (ks vs : List SV) (bs2 : List Nat) (cl2 : Nat) (ks2 vs2 : List SV) :
  ru7b N (H7b since last seen bs cl ks vs bs2 cl2 ks2 vs2) (.tup [.bool false], none) = .ret (.tup [.int .i64 4, .mp 2]) [(0, none)] := by kernel_rfl
noncomputable def deT (N since last : Nat) (seen bs : List Nat) (cl : Nat) (ks vs : List SV) (bs2 : List Nat) (cl2 : Nat) (ks2 vs2 : List SV) : CTree :=
 gd (Nat.blt (leftB seen bs).length N) (gd (dec (deOk seen bs since last cl ks vs bs2 ks2 vs2)) (.ret (.tup [.int .i64 4, .mp 2]) [(2, some (mpo3 ((zip3 bs2 ks2 vs2).filter (keepE (leftE seen bs ks vs))) cl2)), (0, none)]))
noncomputable def sapG (x y : SV) (K : CTree) : CTree := gd (dec ((rE x).cs = (rOf (rE x).cs).cs ∧ (rE y).cs = (rOf (rE y).cs).cs ∧ aNrm (rOf (rE x).cs).d ∧ aNrm (rOf (rE y).cs).d)) K
theorem ru7b_t (N since last b : Nat) (seen bs : List Nat) (cl : Nat) (ks vs : List SV) (bs2 : List Nat) (cl2 : Nat) (ks2 vs2 : List SV) :
  ru7b N (H7b since last seen bs cl ks vs bs2 cl2 ks2 vs2) (.tup [.bool true, .junk, .junk], some (.mit 1 since (b :: seen) cl)) =
 gd (Nat.beq cl cl && memN b bs) (gd (eqAll (nE (ks.getD (idxN bs b) .junk)).cs ks2) (bif hasH (nE (ks.getD (idxN bs b) .junk)).cs ks2 then
   (bif eqN (rE (vs.getD (idxN bs b) .junk)).n (rE (vs2.getD (idxH (nE (ks.getD (idxN bs b) .junk)).cs ks2) .junk)).n then
    sapG (vs.getD (idxN bs b) .junk) (vs2.getD (idxH (nE (ks.getD (idxN bs b) .junk)).cs ks2) .junk) (bif eqV (rE (vs.getD (idxN bs b) .junk)).d.cs (rE (vs2.getD (idxH (nE (ks.getD (idxN bs b) .junk)).cs ks2) .junk)).d.cs then
     gd (eqAll (nE (ks.getD (idxN bs b) .junk)).cs ks2) (deT N since cl (b :: seen) bs cl ks vs (delN bs2 (idxH (nE (ks.getD (idxN bs b) .junk)).cs ks2)) cl2 (delN ks2 (idxH (nE (ks.getD (idxN bs b) .junk)).cs ks2)) (delN vs2 (idxH (nE (ks.getD (idxN bs b) .junk)).cs ks2)))
     else deT N since cl (b :: seen) bs cl ks vs bs2 cl2 ks2 vs2)
   else deT N since cl (b :: seen) bs cl ks vs bs2 cl2 ks2 vs2)
  else deT N since cl (b :: seen) bs cl ks vs bs2 cl2 ks2 vs2)) := by kernel_rfl
end Go.Proofs.Ytkbbiaobohlogaa
