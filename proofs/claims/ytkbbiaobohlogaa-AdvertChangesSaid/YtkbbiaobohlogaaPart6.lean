/- What is advertised: what has not changed goes, known. -/
import Derived.Test.YtkbbiaobohlogaaPart5
import Derived.Test.YtkbbiaobohlogaaMachine9
set_option linter.unusedVariables false
set_option linter.unusedSimpArgs false
namespace Go.Proofs.Ytkbbiaobohlogaa
open Go.Am
set_option maxRecDepth 100000
theorem zip3_parts : ∀ {bs : List Nat} {ks vs : List SV}, ks.length = bs.length → vs.length = bs.length → (zip3 bs ks vs).map (·.1) = bs ∧ (zip3 bs ks vs).map (·.2.1) = ks ∧ (zip3 bs ks vs).map (·.2.2) = vs
 | [], [], [], _, _ => ⟨rfl, rfl, rfl⟩
 | [], _ :: _, _, h, _ => by simp at h
 | [], [], _ :: _, _, h => by simp at h
 | _ :: _, [], _, h, _ => by simp at h
 | _ :: _, _ :: _, [], _, h => by simp at h
 | b :: bs, k :: ks, v :: vs, h1, h2 => by
  obtain ⟨e1, e2, e3⟩ := zip3_parts (bs := bs) (ks := ks) (vs := vs) (by simpa using h1) (by simpa using h2)
  simp only [zip3, List.map_cons, e1, e2, e3, and_self]
theorem parts_zip3 : ∀ (m : List (Nat × SV × SV)), zip3 (m.map (·.1)) (m.map (·.2.1)) (m.map (·.2.2)) = m
 | [] => rfl
 | (a, b, c) :: m => by simp [zip3, parts_zip3 m]
theorem leftE_cons {b : Nat} {seen : List Nat} : ∀ {bs : List Nat} {ks vs : List SV}, ks.length = bs.length → vs.length = bs.length → bs.Nodup → b ∈ leftB seen bs → (leftE seen bs ks vs).Perm ((ks.getD (idxN bs b) .junk, vs.getD (idxN bs b) .junk) :: leftE (b :: seen) bs ks vs)
 | [], _, _, _, _, _, h => by simp [leftB] at h
 | a :: bs, [], _, h, _, _, _ => by simp at h
 | a :: bs, _ :: _, [], _, h, _, _ => by simp at h
 | a :: bs, k :: ks, v :: vs, h, h', hn, hb => by
  have hn2 := (List.nodup_cons.1 hn)
  by_cases hab : a = b
  · subst hab
    have hs : memN a seen = false := by
     simp only [leftB] at hb
     cases hm : memN a seen with
     | false => rfl
     | true =>
      rw [hm, cond_true] at hb
      exact absurd (leftB_mem hb) hn2.1
    have e1 : idxN (a :: bs) a = 0 := by simp [idxN]
    have e2 : memN a (a :: seen) = true := by simp [memN]
    simp only [leftE, hs, e1, e2, cond_false, cond_true, List.getD_cons_zero]
    have : ∀ (l : List Nat) (ks vs : List SV), a ∉ l → leftE seen l ks vs = leftE (a :: seen) l ks vs := by
     intro l
     induction l with
     | nil => intro ks vs _; cases ks <;> cases vs <;> rfl
     | cons x l ih =>
      intro ks vs hx
      cases ks with
      | nil => rfl
      | cons k ks =>
       cases vs with
       | nil => rfl
       | cons v vs =>
        have hxa : x ≠ a := fun e => hx (by simp [e])
        have hm : memN x (a :: seen) = memN x seen := by simp [memN, nb_f hxa]
        simp only [leftE, hm, ih ks vs (fun h => hx (by simp [h]))]
    rw [this bs ks vs hn2.1]
  · have e1 : idxN (a :: bs) b = idxN bs b + 1 := by simp [idxN, nb_f hab]
    have e2 : memN a (b :: seen) = memN a seen := by simp [memN, nb_f hab]
    have hb2 : b ∈ leftB seen bs := by
     simp only [leftB] at hb
     cases hm : memN a seen with
     | true => rw [hm, cond_true] at hb; exact hb
     | false =>
      rw [hm, cond_false] at hb
      rcases List.mem_cons.1 hb with rfl | hb
      · exact absurd rfl hab
      · exact hb
    have ih := leftE_cons (ks := ks) (vs := vs) (by simpa using h) (by simpa using h') hn2.2 hb2
    simp only [leftE, e1, e2, List.getD_cons_succ]
    cases memN a seen with
    | true => exact ih
    | false => exact (ih.cons (k, v)).trans (.swap _ _ _)
theorem leftE_keys (seen : List Nat) : ∀ (bs : List Nat) (ks vs : List SV), vs.length = ks.length → (leftE seen bs ks vs).map (·.1) = leftK seen bs ks
 | [], ks, vs, _ => by simp [leftE, leftK]
 | _ :: _, [], vs, _ => by simp [leftE, leftK]
 | _ :: _, _ :: _, [], h => by simp at h
 | b :: bs, k :: ks, v :: vs, h => by
  have ih := leftE_keys seen bs ks vs (by simpa using h)
  simp only [leftE, leftK]
  cases memN b seen with
  | true => exact ih
  | false => simp only [cond_false, List.map_cons, ih]
theorem leftE_nil {seen : List Nat} : ∀ {bs : List Nat} {ks vs : List SV}, leftB seen bs = [] → leftE seen bs ks vs = []
 | [], ks, vs, _ => by simp [leftE]
 | _ :: _, [], _, _ => by simp [leftE]
 | _ :: _, _ :: _, [], _ => by simp [leftE]
 | b :: bs, k :: ks, v :: vs, h => by
  simp only [leftB] at h
  simp only [leftE]
  cases hm : memN b seen with
  | true => rw [hm] at h; exact leftE_nil h
  | false => rw [hm] at h; cases h
theorem filter_all {α : Type} {p : α → Bool} : ∀ {l : List α}, (∀ x ∈ l, p x = true) → l.filter p = l
 | [], _ => rfl
 | a :: l, h => by rw [List.filter_cons, h a (by simp), if_pos rfl, filter_all (fun x hx => h x (by simp [hx]))]
theorem del_filter {β : Type} (n : Nk) (f : Nat × SV × SV → β) : ∀ (m : List (Nat × SV × SV)), ksOk (m.map (·.2.1)) → (m.map (·.2.1)).Nodup → delN (m.map f) (idxH n.cs (m.map (·.2.1))) = (m.filter fun e => !dec (e.2.1 = .agg n.cs)).map f
 | [], _, _ => rfl
 | e :: m, h, hn => by
  have hk := kHit_n n (h e.2.1 (by simp))
  have hn2 := List.nodup_cons.1 hn
  simp only [List.map_cons, idxH, hk, List.filter_cons]
  by_cases he : SV.agg n.cs = e.2.1
  · rw [dec_iff.2 he, dec_iff.2 he.symm]
    simp only [cond_true, delN, Bool.not_true, Bool.false_eq_true, if_false]
    rw [filter_all (fun x hx => ?_)]
    rw [dec_f (fun hx2 => hn2.1 ?_)]; rfl
    exact List.mem_map.2 ⟨x, hx, hx2.trans he⟩
  · rw [dec_f he, dec_f (fun h => he h.symm)]
    simp only [cond_false, delN, Bool.not_false, if_true, List.map_cons]
    rw [del_filter n f m (fun k hk => h k (by simp only [List.map_cons, List.mem_cons]; exact .inr hk)) hn2.2]
theorem idx_val (n : Nk) : ∀ (m : List (Nat × SV × SV)), ksOk (m.map (·.2.1)) → (m.map (·.2.1)).Nodup → ∀ e ∈ m, e.2.1 = .agg n.cs → (m.map (·.2.2)).getD (idxH n.cs (m.map (·.2.1))) .junk = e.2.2
 | [], _, _, e, he, _ => by cases he
 | a :: m, h, hn, e, he, hk => by
  have hka := kHit_n n (h a.2.1 (by simp))
  have hn2 := List.nodup_cons.1 hn
  simp only [List.map_cons, idxH, hka]
  rcases List.mem_cons.1 he with rfl | he
  · rw [dec_iff.2 hk.symm]; rfl
  · have hne : ¬ SV.agg n.cs = a.2.1 := fun e2 => hn2.1 (List.mem_map.2 ⟨e, he, hk.trans e2⟩)
    rw [dec_f hne]
    simp only [cond_false, List.getD_cons_succ]
    exact idx_val n m (fun k hk => h k (by simp only [List.map_cons, List.mem_cons]; exact .inr hk)) hn2.2 e he hk
theorem keepE_congr {l l' : List (SV × SV)} (e : Nat × SV × SV) (h : ∀ x, (e.2.1, x) ∈ l ↔ (e.2.1, x) ∈ l') : keepE l e = keepE l' e := by
 unfold keepE
 rw [dec_congr]
 constructor
 · rintro ⟨x, h1, h2⟩; exact ⟨x, (h x).1 h1, h2⟩
 · rintro ⟨x, h1, h2⟩; exact ⟨x, (h x).2 h1, h2⟩
theorem keepE_perm {l l' : List (SV × SV)} (h : l.Perm l') : keepE l = keepE l' := by
 funext e
 exact keepE_congr e fun x => h.mem_iff
theorem keepE_other {l : List (SV × SV)} {k x : SV} {e : Nat × SV × SV} (h : e.2.1 ≠ k) : keepE ((k, x) :: l) e = keepE l e := by
 refine keepE_congr e fun y => ?_
 rw [List.mem_cons]
 constructor
 · rintro (hh | hh)
   · exact absurd (Prod.mk.inj hh).1 h
   · exact hh
 · exact .inr
theorem keepE_none {l : List (SV × SV)} {e : Nat × SV × SV} (h : ∀ y, (e.2.1, y) ∉ l) : keepE l e = true := by
 unfold keepE
 rw [dec_f (fun ⟨y, hy, _⟩ => h y hy)]; rfl
theorem keepE_same {l : List (SV × SV)} {k x : SV} {e : Nat × SV × SV} (h : e.2.1 = k) (hs : sameNA x e.2.2) : keepE ((k, x) :: l) e = false := by
 unfold keepE
 rw [dec_iff.2 ⟨x, by rw [h]; simp, hs⟩]; rfl
theorem keepE_diff {l : List (SV × SV)} {k x : SV} {e : Nat × SV × SV} (h : e.2.1 = k) (hs : ¬ sameNA x e.2.2) (hl : ∀ y, (k, y) ∉ l) : keepE ((k, x) :: l) e = true := by
 unfold keepE
 rw [dec_f]; rfl
 rintro ⟨y, hy, h2⟩
 rw [h, List.mem_cons] at hy
 rcases hy with hy | hy
 · rw [(Prod.mk.inj hy).2] at h2; exact hs h2
 · exact hl y hy
theorem deT_run {N since last : Nat} {seen bs : List Nat} {cl : Nat} {ks vs : List SV} {bs2 : List Nat} {cl2 : Nat} {ks2 vs2 : List SV} (h1 : (leftB seen bs).length < N) (h2 : deOk seen bs since last cl ks vs bs2 ks2 vs2) :
  crun (deT N since last seen bs cl ks vs bs2 cl2 ks2 vs2) = some (.tup [.int .i64 4, .mp 2], [(2, some (mpo3 ((zip3 bs2 ks2 vs2).filter (keepE (leftE seen bs ks vs))) cl2)), (0, none)]) := by
 unfold deT
 rw [crun_gd (by rw [Nat.blt_eq]; exact h1), crun_gd (dec_iff.2 h2)]; rfl
theorem de_valid : ValidL Try.prog e7b := mapLoopU_valid (μ := deM) ok7 mixTry c7b_eq o7b_op o7b_g (by
 intro N args H v' ups' hb h
 unfold e7b de_s at h
 simp only [] at h
 split at h
 · rename_i since seen last bs cl ks vs bs2 cl2 ks2 vs2
   rw [crun_ite] at h
   cases hc : dec _ with
   | false => rw [hc] at h; cases h
   | true =>
    rw [hc, cond_true] at h
    have hok := dec_iff.1 hc
    obtain ⟨a1, a2, a3, a4, a5, a6, a7, a8, a9, a10, a11, a12, a13⟩ := id hok
    have hN : Nat.blt (leftB seen bs).length (N + 1) = true := hb
    rw [Nat.blt_eq] at hN
    cases h
    refine ⟨ck7b since last seen bs cl ks vs bs2 cl2 ks2 vs2, dk7b since last seen bs cl ks vs bs2 cl2 ks2 vs2, 0, _, (nx7b since last seen bs cl ks vs bs2 cl2 ks2 vs2).trans (by rw [a1]; rfl), fun p hp => ?_⟩
    obtain ⟨z1, z2, z3⟩ := zip3_parts a9 a10
    rcases optsB_mem hp with ⟨hl, rfl⟩ | ⟨b, hbm, rfl⟩
    · refine ⟨_, _, congrArg crun (ru7b_end N since last seen bs cl ks vs bs2 cl2 ks2 vs2), .same fun x => ?_⟩
      rw [leftE_nil hl, filter_all (fun e _ => keepE_none (fun y => by simp))]
      have hm : mpo3 (zip3 bs2 ks2 vs2) cl2 = .ext (.mpo 39 48 bs2 cl2 ks2 vs2) := by unfold mpo3; rw [z1, z2, z3]
      rw [hm]
      simp only [updF]
      by_cases h0 : x = 0
      · rw [if_pos h0, if_pos h0]
      · rw [if_neg h0, if_neg h0]
        by_cases h2 : x = 2
        · subst h2; rfl
        · rw [if_neg h2]
    · have ht := congrArg crun (ru7b_t N since last b seen bs cl ks vs bs2 cl2 ks2 vs2)
      have hbb := leftB_mem hbm
      have hlt := idxN_lt hbb
      have hperm := leftE_cons a4 a5 a3 hbm
      have hkperm := leftK_cons a4 a3 hbm
      have hless := leftB_less a3 hbm
      have hkm : ks.getD (idxN bs b) .junk ∈ ks := getD_mem (by omega)
      have hvm : vs.getD (idxN bs b) .junk ∈ vs := getD_mem (by omega)
      have hkn := a7 _ hkm
      have hvn := a8 _ hvm
      have hkeys := leftE_keys (b :: seen) bs ks vs (by omega)
      generalize ks.getD (idxN bs b) .junk = k at *
      generalize vs.getD (idxN bs b) .junk = x at *
      unfold kNrm at hkn
      generalize nE k = n at *
      subst hkn
      rw [crun_gd (by rw [Bool.and_eq_true]; exact ⟨Nat.beq_refl _, (memN_iff2 _ _).2 hbb⟩), crun_gd (eqAll_n n ks2 a12), crun_cond, hasH_n n a12] at ht
      have hnd : (SV.agg n.cs :: leftK (b :: seen) bs ks).Nodup := hkperm.nodup_iff.1 ((leftK_sub seen bs ks).nodup a6)
      have hno : ∀ y, (SV.agg n.cs, y) ∉ leftE (b :: seen) bs ks vs := fun y hy => (List.nodup_cons.1 hnd).1 (by rw [← hkeys]; exact List.mem_map.2 ⟨_, hy, rfl⟩)
      have age := ageOk_next a1 a2
      have hkp := keepE_perm hperm
      rw [hkp]
      have plain : ∀ (_ : ∀ e ∈ zip3 bs2 ks2 vs2, keepE ((SV.agg n.cs, x) :: leftE (b :: seen) bs ks vs) e = keepE (leftE (b :: seen) bs ks vs) e),
        crun (deT N since cl (b :: seen) bs cl ks vs bs2 cl2 ks2 vs2) = some (.tup [.int .i64 4, .mp 2], [(2, some (mpo3 ((zip3 bs2 ks2 vs2).filter (keepE ((SV.agg n.cs, x) :: leftE (b :: seen) bs ks vs))) cl2)), (0, none)]) := by
       intro hcg
       rw [deT_run (by omega) ⟨age, a2, a3, a4, a5, a6, a7, a8, a9, a10, a11, a12, a13⟩, List.filter_congr hcg]
      by_cases hk2 : SV.agg n.cs ∈ ks2
      · rw [dec_iff.2 hk2, cond_true] at ht
        obtain ⟨e0, he0, hke0⟩ := List.mem_map.1 (show SV.agg n.cs ∈ (zip3 bs2 ks2 vs2).map (·.2.1) by rw [z2]; exact hk2)
        have huniq : ∀ e ∈ zip3 bs2 ks2 vs2, e.2.1 = SV.agg n.cs → vs2.getD (idxH n.cs ks2) .junk = e.2.2 := by
         intro e he hke
         have := idx_val n (zip3 bs2 ks2 vs2) (by rw [z2]; exact a12) (by rw [z2]; exact a11) e he hke
         rw [z2, z3] at this
         exact this
        have hyv : vs2.getD (idxH n.cs ks2) .junk ∈ vs2 := by
         rw [huniq e0 he0 hke0, ← z3]
         exact List.mem_map.2 ⟨e0, he0, rfl⟩
        have hyn := a13 _ hyv
        have hd1 := del_filter n (·.1) (zip3 bs2 ks2 vs2) (by rw [z2]; exact a12) (by rw [z2]; exact a11)
        have hd2 := del_filter n (·.2.1) (zip3 bs2 ks2 vs2) (by rw [z2]; exact a12) (by rw [z2]; exact a11)
        have hd3 := del_filter n (·.2.2) (zip3 bs2 ks2 vs2) (by rw [z2]; exact a12) (by rw [z2]; exact a11)
        rw [z2] at hd1 hd2 hd3
        rw [z1] at hd1
        rw [z3] at hd3
        rw [hd1, hd2, hd3] at ht
        generalize vs2.getD (idxH n.cs ks2) .junk = y at *
        by_cases hs : sameNA x y
        · unfold sapG at ht
          rw [(eqN_iff _ _).2 hs.1, cond_true, crun_gd (dec_iff.2 ⟨rE_fix _, rE_fix _, hvn.2, hyn.2⟩), eqV_iff.2 hs.2, cond_true, crun_gd (eqAll_n n ks2 a12)] at ht
          have sub : ((zip3 bs2 ks2 vs2).filter fun e => !dec (e.2.1 = SV.agg n.cs)).Sublist (zip3 bs2 ks2 vs2) := List.filter_sublist
          rw [deT_run (by omega) ⟨age, a2, a3, a4, a5, a6, a7, a8, by simp, by simp, ?_, ?_, ?_⟩, parts_zip3] at ht
          · refine ⟨_, _, ht, .same fun z => ?_⟩
            rw [List.filter_filter]
            have hcg : (zip3 bs2 ks2 vs2).filter (keepE ((SV.agg n.cs, x) :: leftE (b :: seen) bs ks vs)) = (zip3 bs2 ks2 vs2).filter (fun a => keepE (leftE (b :: seen) bs ks vs) a && !dec (a.2.1 = SV.agg n.cs)) := by
             refine List.filter_congr fun e he => ?_
             by_cases hke : e.2.1 = SV.agg n.cs
             · rw [keepE_same hke (by rw [← huniq e he hke]; exact hs), dec_iff.2 hke, Bool.not_true, Bool.and_false]
             · rw [keepE_other hke, dec_f hke, Bool.not_false, Bool.and_true]
            rw [hcg]
          · exact (sub.map (·.2.1)).nodup (by rw [z2]; exact a11)
          · intro k' hk'
            exact a12 k' (by rw [← z2]; exact (sub.map (·.2.1)).subset hk')
          · intro v hv
            exact a13 v (by rw [← z3]; exact (sub.map (·.2.2)).subset hv)
        · have hcg : ∀ e ∈ zip3 bs2 ks2 vs2, keepE ((SV.agg n.cs, x) :: leftE (b :: seen) bs ks vs) e = keepE (leftE (b :: seen) bs ks vs) e := by
            intro e he
            by_cases hke : e.2.1 = SV.agg n.cs
            · rw [keepE_diff hke (by rw [← huniq e he hke]; exact hs) hno, keepE_none (fun y => by rw [hke]; exact hno y)]
            · exact keepE_other hke
          have hp := plain hcg
          refine ⟨_, _, ?_, .same fun _ => rfl⟩
          rw [← hp]
          refine ht.trans ?_
          by_cases hn1 : (rE x).n.cs = (rE y).n.cs
          · unfold sapG
            rw [(eqN_iff _ _).2 hn1, cond_true, crun_gd (dec_iff.2 ⟨rE_fix _, rE_fix _, hvn.2, hyn.2⟩)]
            have : eqV (rE x).d.cs (rE y).d.cs = false := dec_f fun h => hs ⟨hn1, h⟩
            rw [this, cond_false]
          · have : eqN (rE x).n (rE y).n = false := by
              cases hh : eqN (rE x).n (rE y).n with
              | false => rfl
              | true => exact absurd ((eqN_iff _ _).1 hh) hn1
            rw [this, cond_false]
      · rw [dec_f hk2, cond_false] at ht
        refine ⟨_, _, ht.trans (plain fun e he => keepE_other fun hke => hk2 ?_), .same fun _ => rfl⟩
        rw [← z2, ← hke]
        exact List.mem_map.2 ⟨e, he, rfl⟩
 · cases h)
end Go.Proofs.Ytkbbiaobohlogaa
/- What is advertised: the keys of a map, collected: the round. -/
namespace Go.Proofs.Ytkbbiaobohlogaa
open Go.Am
set_option maxRecDepth 100000
def rngAt : Code → Option (Array Nat × Code × Code)
 | .seq a b => match rngAt a with
  | some r => some r
  | none => rngAt b
 | .cond _ a b => match rngAt a with
  | some r => some r
  | none => rngAt b
 | .block _ c => rngAt c
 | .scope c => rngAt c
 | .loop c => rngAt c
 | .rangeFunc _ ps a b => some (ps, a, b)
 | _ => none
noncomputable def body62 : Code := Try.f62.body.getD .skip
noncomputable def rng62 : Array Nat × Code × Code := (rngAt body62).getD (#[], .skip, .skip)
def vs62 (F : Nat) : List SV := [.nils, .fn (.func F) [] [.ptr 1 0], .ptr 3 0, .junk, .nils, .junk, .fn (.func F) [] [.ptr 1 0], .junk, .junk, .junk, .junk, .junk, .junk]
noncomputable def lr62 (F : Nat) : Chunk := .loopr .ready (vs62 F) rng62.1 rng62.2.1 rng62.2.2
noncomputable def gr39 (m : Nat) (es : List SV) (K : CTree) : CTree := gd (decide (m = es.length)) (gd (decide (es.length + 1 ≤ 9223372036854775807) && decide ((es.length + 1) * Try.prog.types[39].bytes ≤ 140737488355328)) K)
def coOk2 (seen bs : List Nat) (since last cl : Nat) (ks : List SV) : Prop := ageOk since last bs = true ∧ since ≤ cl ∧ bs.Nodup ∧ ks.length = bs.length ∧ ksOk ks ∧ ks.length ≤ 100000
noncomputable def body52 : Code := Try.f52.body.getD .skip
noncomputable def c52 : Code := (loopAt 1 body52).getD .skip
noncomputable def m52 : Code := markC [(1, "m")] body52
noncomputable def HS0_52 (since last : Nat) (seen bs : List Nat) (cl : Nat) (ks vs : List SV) : HpL := [(0, lr62 52), (1, .cells 61 [.mp 2]), (2, .ext (.mpo 39 48 bs cl ks vs)), (3, .cells 25 [.nils]), (4, .mit 2 since seen last)]
noncomputable def HS1_52 (since last : Nat) (seen bs : List Nat) (cl : Nat) (ks vs : List SV) (m : Nat) (es : List SV) : HpL := [(0, lr62 52), (1, .cells 61 [.mp 2]), (2, .ext (.mpo 39 48 bs cl ks vs)), (3, .cells 25 [.qs 4 21 0 m]), (4, .seq 39 es), (5, .mit 2 since seen last)]
def hOf52 : HpL → Option (Nat × Nat × List Nat × List Nat × Nat × List SV × List SV × Option (Nat × List SV))
 | [(0, _), (1, _), (2, .ext (.mpo 39 48 bs cl ks vs)), (3, .cells 25 [.nils]), (4, .mit 2 since seen last)] => some (since, last, seen, bs, cl, ks, vs, none)
 | [(0, _), (1, _), (2, .ext (.mpo 39 48 bs cl ks vs)), (3, .cells 25 [.qs 4 21 0 m]), (4, .seq 39 es), (5, .mit 2 since seen last)] => some (since, last, seen, bs, cl, ks, vs, some (m, es))
 | _ => none
noncomputable def co52_s : CSumm := fun args H => match args with
 | [.yl 0, .ptr i 0] => match hOf52 H with
  | some (since, last, seen, bs, cl, ks, vs, none) => .ite (dec (i = 4 ∧ H = HS0_52 since last seen bs cl ks vs ∧ coOk2 seen bs since last cl ks))
    (.ite (decide ((leftK seen bs ks).length = 0)) (.ret (.tup [.int .i64 2]) [(4, none)]) (.ret (.tup [.int .i64 2]) [(3, some (.cells 25 [.qs 5 21 0 (leftK seen bs ks).length])), (5, some (.ext (.sqm 39 (leftK seen bs ks)))), (4, none)])) .fail
  | some (since, last, seen, bs, cl, ks, vs, some (m, es)) => .ite (dec (i = 5 ∧ H = HS1_52 since last seen bs cl ks vs m es ∧ coOk2 seen bs since last cl ks ∧ m = es.length ∧ es.length + (leftK seen bs ks).length ≤ 100000))
    (.ret (.tup [.int .i64 2]) [(3, some (.cells 25 [.qs 6 21 0 (es.length + (leftK seen bs ks).length)])), (4, none), (6, some (.ext (.sqm 39 (es ++ leftK seen bs ks)))), (5, none)]) .fail
  | none => .fail
 | _ => .fail
def coM52 : List SV → HpL → Nat := fun _ H => match hOf52 H with
 | some (_, _, seen, bs, _, _, _, _) => (leftB seen bs).length
 | none => 0
noncomputable def e52 : LEnt := { ins := [0, 5], outs := [], keep := [], size := 14, code := c52, s := co52_s }
noncomputable def o52 : Oper := (headOps c52).headD default
noncomputable def os52 : List Oper := (headOps c52).tail
noncomputable def r52 : Code := restOf c52
theorem c52_eq : c52 = .seq (.region 1 (o52 :: os52).toArray false) r52 := by kernel_rfl
theorem o52_op : o52.op = .next (.tmp 5) false := by kernel_rfl
theorem o52_g : o52.guard = none := by kernel_rfl
noncomputable def ru0_52 (N : Nat) := roundU Try.prog (tbl []) (fun _ => false) 300 e52 { e52 with s := boundT coM52 co52_s N } r52 o52 os52 4 true [.yl 0, .ptr 4 0]
noncomputable def ru1_52 (N : Nat) := roundU Try.prog (tbl []) (fun _ => false) 300 e52 { e52 with s := boundT coM52 co52_s N } r52 o52 os52 5 true [.yl 0, .ptr 5 0]
theorem nx0_52 (since last : Nat) (seen bs : List Nat) (cl : Nat) (ks vs : List SV) : nextOpts (loopSt true e52 [.yl 0, .ptr 4 0] (HS0_52 since last seen bs cl ks vs)) (.tmp 5) = bif ageOk since last bs then some (4, optsB 2 since cl seen (leftB seen bs)) else none := by kernel_rfl
theorem nx1_52 (since last : Nat) (seen bs : List Nat) (cl : Nat) (ks vs : List SV) (m : Nat) (es : List SV) : nextOpts (loopSt true e52 [.yl 0, .ptr 5 0] (HS1_52 since last seen bs cl ks vs m es)) (.tmp 5) = bif ageOk since last bs then some (5, optsB 2 since cl seen (leftB seen bs)) else none := by kernel_rfl
theorem ck0_52 (since last : Nat) (seen bs : List Nat) (cl : Nat) (ks vs : List SV) : loopChk e52 [.yl 0, .ptr 4 0] (HS0_52 since last seen bs cl ks vs) = true := by kernel_rfl
theorem ck1_52 (since last : Nat) (seen bs : List Nat) (cl : Nat) (ks vs : List SV) (m : Nat) (es : List SV) : loopChk e52 [.yl 0, .ptr 5 0] (HS1_52 since last seen bs cl ks vs m es) = true := by kernel_rfl
theorem dk0_52 (since last : Nat) (seen bs : List Nat) (cl : Nat) (ks vs : List SV) : dstOk (loopSt true e52 [.yl 0, .ptr 4 0] (HS0_52 since last seen bs cl ks vs)) o52.dst = true := by kernel_rfl
theorem dk1_52 (since last : Nat) (seen bs : List Nat) (cl : Nat) (ks vs : List SV) (m : Nat) (es : List SV) : dstOk (loopSt true e52 [.yl 0, .ptr 5 0] (HS1_52 since last seen bs cl ks vs m es)) o52.dst = true := by kernel_rfl
theorem re0_52 (N since last : Nat) (seen bs : List Nat) (cl : Nat) (ks vs : List SV) : ru0_52 N (HS0_52 since last seen bs cl ks vs) (.tup [.bool false], none) = .ret (.tup [.int .i64 2]) [(4, none)] := by kernel_rfl
theorem re1_52 (N since last : Nat) (seen bs : List Nat) (cl : Nat) (ks vs : List SV) (m : Nat) (es : List SV) : ru1_52 N (HS1_52 since last seen bs cl ks vs m es) (.tup [.bool false], none) = .ret (.tup [.int .i64 2]) [(5, none)] := by kernel_rfl
noncomputable def cg52 (N since last : Nat) (seen bs : List Nat) (cl : Nat) (ks vs : List SV) (m : Nat) (es : List SV) (K : CTree) : CTree :=
 gd (Nat.blt (leftB seen bs).length N) (gd (dec (5 = 5 ∧ HS1_52 since last seen bs cl ks vs m es = HS1_52 since last seen bs cl ks vs m es ∧ coOk2 seen bs since last cl ks ∧ m = es.length ∧ es.length + (leftK seen bs ks).length ≤ 100000)) K)
theorem rt0_52 (N since last b : Nat) (seen bs : List Nat) (cl : Nat) (ks vs : List SV) : ru0_52 N (HS0_52 since last seen bs cl ks vs) (.tup [.bool true, .junk, .junk], some (.mit 2 since (b :: seen) cl)) =
 gd (Nat.beq cl cl && memN b bs) (cg52 N since cl (b :: seen) bs cl ks vs 1 [.agg (nE (ks.getD (idxN bs b) .junk)).cs]
  (.ret (.tup [.int .i64 2]) [(3, some (.cells 25 [.qs 5 21 0 (1 + (leftK (b :: seen) bs ks).length)])), (0, some (lr62 52)), (4, none), (5, some (.ext (.sqm 39 ([.agg (nE (ks.getD (idxN bs b) .junk)).cs] ++ leftK (b :: seen) bs ks))))])) := by kernel_rfl
theorem rt1_52 (N since last b : Nat) (seen bs : List Nat) (cl : Nat) (ks vs : List SV) (m : Nat) (es : List SV) : ru1_52 N (HS1_52 since last seen bs cl ks vs m es) (.tup [.bool true, .junk, .junk], some (.mit 2 since (b :: seen) cl)) =
 gd (Nat.beq cl cl && memN b bs) (gr39 m es (cg52 N since cl (b :: seen) bs cl ks vs (es.length + 1) (es ++ [SV.agg (nE (ks.getD (idxN bs b) .junk)).cs])
  (.ret (.tup [.int .i64 2]) [(3, some (.cells 25 [.qs 6 21 0 ((es ++ [SV.agg (nE (ks.getD (idxN bs b) .junk)).cs]).length + (leftK (b :: seen) bs ks).length)])), (4, none), (0, some (lr62 52)), (5, none), (6, some (.ext (.sqm 39 (es ++ [SV.agg (nE (ks.getD (idxN bs b) .junk)).cs] ++ leftK (b :: seen) bs ks))))]))) := by kernel_rfl
noncomputable def body61 : Code := Try.f61.body.getD .skip
noncomputable def c61 : Code := (loopAt 1 body61).getD .skip
noncomputable def m61 : Code := markC [(1, "m")] body61
noncomputable def HS0_61 (since last : Nat) (seen bs : List Nat) (cl : Nat) (ks vs : List SV) : HpL := [(0, lr62 61), (1, .cells 63 [.mp 2]), (2, .ext (.mpo 39 65 bs cl ks vs)), (3, .cells 25 [.nils]), (4, .mit 2 since seen last)]
noncomputable def HS1_61 (since last : Nat) (seen bs : List Nat) (cl : Nat) (ks vs : List SV) (m : Nat) (es : List SV) : HpL := [(0, lr62 61), (1, .cells 63 [.mp 2]), (2, .ext (.mpo 39 65 bs cl ks vs)), (3, .cells 25 [.qs 4 21 0 m]), (4, .seq 39 es), (5, .mit 2 since seen last)]
def hOf61 : HpL → Option (Nat × Nat × List Nat × List Nat × Nat × List SV × List SV × Option (Nat × List SV))
 | [(0, _), (1, _), (2, .ext (.mpo 39 65 bs cl ks vs)), (3, .cells 25 [.nils]), (4, .mit 2 since seen last)] => some (since, last, seen, bs, cl, ks, vs, none)
 | [(0, _), (1, _), (2, .ext (.mpo 39 65 bs cl ks vs)), (3, .cells 25 [.qs 4 21 0 m]), (4, .seq 39 es), (5, .mit 2 since seen last)] => some (since, last, seen, bs, cl, ks, vs, some (m, es))
 | _ => none
noncomputable def co61_s : CSumm := fun args H => match args with
 | [.yl 0, .ptr i 0] => match hOf61 H with
  | some (since, last, seen, bs, cl, ks, vs, none) => .ite (dec (i = 4 ∧ H = HS0_61 since last seen bs cl ks vs ∧ coOk2 seen bs since last cl ks))
    (.ite (decide ((leftK seen bs ks).length = 0)) (.ret (.tup [.int .i64 2]) [(4, none)]) (.ret (.tup [.int .i64 2]) [(3, some (.cells 25 [.qs 5 21 0 (leftK seen bs ks).length])), (5, some (.ext (.sqm 39 (leftK seen bs ks)))), (4, none)])) .fail
  | some (since, last, seen, bs, cl, ks, vs, some (m, es)) => .ite (dec (i = 5 ∧ H = HS1_61 since last seen bs cl ks vs m es ∧ coOk2 seen bs since last cl ks ∧ m = es.length ∧ es.length + (leftK seen bs ks).length ≤ 100000))
    (.ret (.tup [.int .i64 2]) [(3, some (.cells 25 [.qs 6 21 0 (es.length + (leftK seen bs ks).length)])), (4, none), (6, some (.ext (.sqm 39 (es ++ leftK seen bs ks)))), (5, none)]) .fail
  | none => .fail
 | _ => .fail
def coM61 : List SV → HpL → Nat := fun _ H => match hOf61 H with
 | some (_, _, seen, bs, _, _, _, _) => (leftB seen bs).length
 | none => 0
noncomputable def e61 : LEnt := { ins := [0, 5], outs := [], keep := [], size := 14, code := c61, s := co61_s }
noncomputable def o61 : Oper := (headOps c61).headD default
noncomputable def os61 : List Oper := (headOps c61).tail
noncomputable def r61 : Code := restOf c61
theorem c61_eq : c61 = .seq (.region 1 (o61 :: os61).toArray false) r61 := by kernel_rfl
theorem o61_op : o61.op = .next (.tmp 5) false := by kernel_rfl
theorem o61_g : o61.guard = none := by kernel_rfl
noncomputable def ru0_61 (N : Nat) := roundU Try.prog (tbl []) (fun _ => false) 300 e61 { e61 with s := boundT coM61 co61_s N } r61 o61 os61 4 true [.yl 0, .ptr 4 0]
noncomputable def ru1_61 (N : Nat) := roundU Try.prog (tbl []) (fun _ => false) 300 e61 { e61 with s := boundT coM61 co61_s N } r61 o61 os61 5 true [.yl 0, .ptr 5 0]
theorem nx0_61 (since last : Nat) (seen bs : List Nat) (cl : Nat) (ks vs : List SV) : nextOpts (loopSt true e61 [.yl 0, .ptr 4 0] (HS0_61 since last seen bs cl ks vs)) (.tmp 5) = bif ageOk since last bs then some (4, optsB 2 since cl seen (leftB seen bs)) else none := by kernel_rfl
theorem nx1_61 (since last : Nat) (seen bs : List Nat) (cl : Nat) (ks vs : List SV) (m : Nat) (es : List SV) : nextOpts (loopSt true e61 [.yl 0, .ptr 5 0] (HS1_61 since last seen bs cl ks vs m es)) (.tmp 5) = bif ageOk since last bs then some (5, optsB 2 since cl seen (leftB seen bs)) else none := by kernel_rfl
theorem ck0_61 (since last : Nat) (seen bs : List Nat) (cl : Nat) (ks vs : List SV) : loopChk e61 [.yl 0, .ptr 4 0] (HS0_61 since last seen bs cl ks vs) = true := by kernel_rfl
theorem ck1_61 (since last : Nat) (seen bs : List Nat) (cl : Nat) (ks vs : List SV) (m : Nat) (es : List SV) : loopChk e61 [.yl 0, .ptr 5 0] (HS1_61 since last seen bs cl ks vs m es) = true := by kernel_rfl
theorem dk0_61 (since last : Nat) (seen bs : List Nat) (cl : Nat) (ks vs : List SV) : dstOk (loopSt true e61 [.yl 0, .ptr 4 0] (HS0_61 since last seen bs cl ks vs)) o61.dst = true := by kernel_rfl
theorem dk1_61 (since last : Nat) (seen bs : List Nat) (cl : Nat) (ks vs : List SV) (m : Nat) (es : List SV) : dstOk (loopSt true e61 [.yl 0, .ptr 5 0] (HS1_61 since last seen bs cl ks vs m es)) o61.dst = true := by kernel_rfl
theorem re0_61 (N since last : Nat) (seen bs : List Nat) (cl : Nat) (ks vs : List SV) : ru0_61 N (HS0_61 since last seen bs cl ks vs) (.tup [.bool false], none) = .ret (.tup [.int .i64 2]) [(4, none)] := by kernel_rfl
theorem re1_61 (N since last : Nat) (seen bs : List Nat) (cl : Nat) (ks vs : List SV) (m : Nat) (es : List SV) : ru1_61 N (HS1_61 since last seen bs cl ks vs m es) (.tup [.bool false], none) = .ret (.tup [.int .i64 2]) [(5, none)] := by kernel_rfl
noncomputable def cg61 (N since last : Nat) (seen bs : List Nat) (cl : Nat) (ks vs : List SV) (m : Nat) (es : List SV) (K : CTree) : CTree :=
 gd (Nat.blt (leftB seen bs).length N) (gd (dec (5 = 5 ∧ HS1_61 since last seen bs cl ks vs m es = HS1_61 since last seen bs cl ks vs m es ∧ coOk2 seen bs since last cl ks ∧ m = es.length ∧ es.length + (leftK seen bs ks).length ≤ 100000)) K)
theorem rt0_61 (N since last b : Nat) (seen bs : List Nat) (cl : Nat) (ks vs : List SV) : ru0_61 N (HS0_61 since last seen bs cl ks vs) (.tup [.bool true, .junk, .junk], some (.mit 2 since (b :: seen) cl)) =
 gd (Nat.beq cl cl && memN b bs) (cg61 N since cl (b :: seen) bs cl ks vs 1 [.agg (nE (ks.getD (idxN bs b) .junk)).cs]
  (.ret (.tup [.int .i64 2]) [(3, some (.cells 25 [.qs 5 21 0 (1 + (leftK (b :: seen) bs ks).length)])), (0, some (lr62 61)), (4, none), (5, some (.ext (.sqm 39 ([.agg (nE (ks.getD (idxN bs b) .junk)).cs] ++ leftK (b :: seen) bs ks))))])) := by kernel_rfl
theorem rt1_61 (N since last b : Nat) (seen bs : List Nat) (cl : Nat) (ks vs : List SV) (m : Nat) (es : List SV) : ru1_61 N (HS1_61 since last seen bs cl ks vs m es) (.tup [.bool true, .junk, .junk], some (.mit 2 since (b :: seen) cl)) =
 gd (Nat.beq cl cl && memN b bs) (gr39 m es (cg61 N since cl (b :: seen) bs cl ks vs (es.length + 1) (es ++ [SV.agg (nE (ks.getD (idxN bs b) .junk)).cs])
  (.ret (.tup [.int .i64 2]) [(3, some (.cells 25 [.qs 6 21 0 ((es ++ [SV.agg (nE (ks.getD (idxN bs b) .junk)).cs]).length + (leftK (b :: seen) bs ks).length)])), (4, none), (0, some (lr62 61)), (5, none), (6, some (.ext (.sqm 39 (es ++ [SV.agg (nE (ks.getD (idxN bs b) .junk)).cs] ++ leftK (b :: seen) bs ks))))]))) := by kernel_rfl
end Go.Proofs.Ytkbbiaobohlogaa
