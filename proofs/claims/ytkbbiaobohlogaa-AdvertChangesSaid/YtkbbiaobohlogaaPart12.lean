/- What is advertised: the plain law: what is kept and what is announced make what is now. -/
import Derived.Test.YtkbbiaobohlogaaPart11
set_option linter.unusedVariables false
set_option linter.unusedSimpArgs false
namespace Go.Proofs.Ytkbbiaobohlogaa
open Go.Am
set_option maxRecDepth 100000
theorem map_fix {f : SV → SV} {l : List SV} (h : ∀ g ∈ l, f g = g) : l.map f = l := by
 rw [List.map_congr_left (g := id) h, List.map_id]
theorem sortK_nil : sortK [] = [] := List.length_eq_zero_iff.1 (sortK_len [])
theorem filter_len {α : Type} (p : α → Bool) : ∀ (l : List α), (l.filter fun x => !p x).length + (l.filter p).length = l.length
 | [] => rfl
 | a :: l => by
  have := filter_len p l
  rw [List.filter_cons, List.filter_cons]
  cases p a <;> simp <;> omega
theorem map_lk {xs : List SV} {m : List (SV × SV)} (h : MapOk xs m) {k v : SV} : (k, v) ∈ m ↔ lk k xs = some v := by
 rw [← look_mem h.nd, h.look]
theorem map_key {xs : List SV} {m : List (SV × SV)} (h : MapOk xs m) {k : SV} : k ∈ m.map (·.1) ↔ ∃ v, lk k xs = some v := by
 constructor
 · intro hk
   obtain ⟨p, hp, rfl⟩ := List.mem_map.1 hk
   exact ⟨p.2, (map_lk h).1 hp⟩
 · rintro ⟨v, hv⟩
   exact List.mem_map.2 ⟨(k, v), (map_lk h).2 hv, rfl⟩
theorem chg_keys {ys : List SV} {mx my : List (SV × SV)} (hy : MapOk ys my) (oy : ∀ y ∈ ys, rtOk y) : ∀ k ∈ (chg mx my).map (·.1), KyOk k := by
 intro k hk
 exact (vs_vOk hy oy).2.1 k (((chg_sub mx my).map _).subset hk)
theorem ann_len {ys : List SV} {mx my : List (SV × SV)} (hy : MapOk ys my) : (annK mx my).length ≤ ys.length := by
 unfold annK
 rw [List.length_map, sortK_len, List.length_map]
 exact Nat.le_trans (chg_sub mx my).length_le hy.len
theorem keep_lk {xs : List SV} {mx my : List (SV × SV)} {k b : SV} : lk k (keepL (goneK mx my) (wol xs)) = some b ↔ b ∈ keepL (goneK mx my) (wol xs) ∧ keyV b = k :=
 lk_nodup (((List.filter_sublist (l := wol xs)).map keyV).nodup (srt_nodup (wol_srt xs)))
theorem vAt_chg {ys : List SV} {mx my : List (SV × SV)} (hy : MapOk ys my) (oy : ∀ y ∈ ys, rtOk y) {k v : SV} (h : (k, v) ∈ chg mx my) : vAt ((chg mx my).map (·.1)) ((chg mx my).map (·.2)) k = v := by
 have hk := chg_keys hy oy k (List.mem_map.2 ⟨_, h, rfl⟩)
 rw [← chgM_snd] at h
 obtain ⟨e, he, hev⟩ := List.mem_map.1 h
 have h1 : e.2.1 = .agg (nE k).cs := by rw [hev]; exact hk.1
 have h2 := idx_val (nE k) (chgM mx my) (by rw [chgM_1]; exact ky_ks (chg_keys hy oy)) (by rw [chgM_1]; exact ((chg_sub mx my).map _).nodup hy.nd) e he h1
 unfold vAt
 rw [← chgM_1, ← chgM_2, h2, hev]
section
variable {xs ys : List SV} {mx my : List (SV × SV)} (hx : MapOk xs mx) (hy : MapOk ys my) (ox : ∀ x ∈ xs, rtOk x) (oy : ∀ y ∈ ys, rtOk y)
include hx hy
theorem gone_mem {k : SV} : k ∈ goneK mx my ↔ (∃ v, lk k xs = some v) ∧ ¬ ∃ v, lk k ys = some v := by
 unfold goneK sortK
 rw [(List.mergeSort_perm _ _).mem_iff, List.mem_filter, map_key hx]
 refine and_congr_right fun _ => ?_
 constructor
 · intro h e
   rw [dec_iff.2 ((map_key hy).2 e)] at h
   cases h
 · intro h
   rw [dec_f (fun e => h ((map_key hy).1 e))]; rfl
theorem chg_mem {k v : SV} : (k, v) ∈ chg mx my ↔ lk k ys = some v ∧ ¬ ∃ x, lk k xs = some x ∧ sameNA x v := by
 unfold chg
 rw [List.mem_filter, map_lk hy]
 refine and_congr_right fun _ => ?_
 have e : (∃ x, ((k, v).1, x) ∈ mx ∧ sameNA x (k, v).2) ↔ ∃ x, lk k xs = some x ∧ sameNA x v := by
  constructor
  · rintro ⟨x, h1, h2⟩; exact ⟨x, (map_lk hx).1 h1, h2⟩
  · rintro ⟨x, h1, h2⟩; exact ⟨x, (map_lk hx).2 h1, h2⟩
 constructor
 · intro h h2
   rw [dec_iff.2 (e.2 h2)] at h
   cases h
 · intro h
   rw [dec_f (fun h2 => h (e.1 h2))]; rfl
include oy
theorem ann_mem {a : SV} : a ∈ annK mx my ↔ (keyV a, a) ∈ chg mx my := by
 unfold annK
 rw [List.mem_map]
 constructor
 · rintro ⟨g, hg, rfl⟩
   have hg2 : g ∈ (chg mx my).map (·.1) := (List.mergeSort_perm _ _).mem_iff.1 hg
   obtain ⟨⟨k, v⟩, hp, rfl⟩ := List.mem_map.1 hg2
   rw [vAt_chg hy oy hp]
   have := (lk_some ((chg_mem hx hy).1 hp).1).2
   rw [this]; exact hp
 · intro h
   exact ⟨keyV a, (List.mergeSort_perm _ _).mem_iff.2 (List.mem_map.2 ⟨_, h, rfl⟩), vAt_chg hy oy h⟩
theorem ann_keys : ((annK mx my).map keyV).Nodup := by
 have : (annK mx my).map keyV = sortK ((chg mx my).map (·.1)) := by
  unfold annK
  rw [List.map_map]
  refine map_fix fun g hg => ?_
  have hg2 : g ∈ (chg mx my).map (·.1) := (List.mergeSort_perm _ _).mem_iff.1 hg
  obtain ⟨⟨k, v⟩, hp, rfl⟩ := List.mem_map.1 hg2
  show keyV (vAt _ _ k) = k
  rw [vAt_chg hy oy hp]
  exact (lk_some ((chg_mem hx hy).1 hp).1).2
 rw [this]
 exact (List.mergeSort_perm _ _).nodup_iff.2 (((chg_sub mx my).map _).nodup hy.nd)
theorem ann_lk {k a : SV} : lk k (annK mx my) = some a ↔ (k, a) ∈ chg mx my := by
 rw [lk_nodup (ann_keys hx hy oy), ann_mem hx hy oy]
 constructor
 · rintro ⟨h1, rfl⟩; exact h1
 · intro h
   have := (lk_some ((chg_mem hx hy).1 h).1).2
   exact ⟨by rw [this]; exact h, this⟩
theorem ann_ok : ∀ a ∈ annK mx my, rtOk a ∧ a ∈ ys := by
 intro a ha
 have h1 := ((chg_mem hx hy).1 ((ann_mem hx hy oy).1 ha)).1
 have := (lk_some h1).1
 exact ⟨oy a this, this⟩
omit oy
include ox
theorem gone_ok : ∀ g ∈ goneK mx my, KyOk g := by
 intro g hg
 obtain ⟨⟨v, hv⟩, -⟩ := (gone_mem hx hy).1 hg
 obtain ⟨h1, h2⟩ := lk_some hv
 rw [← h2]; exact keyV_ok (ox v h1)
omit hx hy
theorem wol_ok : ∀ b ∈ wol xs, rtOk b := by
 intro b hb
 obtain ⟨x, h1, rfl⟩ := wol_mem.1 hb
 exact rtOk_z (ox x (lk_some h1).1)
include hx hy
theorem hit_mem {b : SV} (hb : rtOk b) : hitL (goneK mx my) b = true ↔ keyV b ∈ goneK mx my := by
 unfold hitL
 rw [List.any_eq_true]
 constructor
 · rintro ⟨g, hg, h⟩
   have := (hit_iff (gone_ok hx hy ox g hg) hb).1 (by simpa using h)
   rw [← this]; exact hg
 · intro h
   exact ⟨keyV b, h, by rw [(hit_iff (gone_ok hx hy ox _ h) hb).2 rfl]; rfl⟩
theorem keep_mem {b : SV} : b ∈ keepL (goneK mx my) (wol xs) ↔ (∃ x, lk (keyV b) xs = some x ∧ b = zR x) ∧ ∃ y, lk (keyV b) ys = some y := by
 unfold keepL
 rw [List.mem_filter, wol_mem]
 refine and_congr_right fun h => ?_
 obtain ⟨x, h1, h2⟩ := h
 have hb : rtOk b := by rw [h2]; exact rtOk_z (ox x (lk_some h1).1)
 have hm := hit_mem hx hy ox hb
 rw [gone_mem hx hy] at hm
 cases hh : hitL (goneK mx my) b with
 | true => simp only [Bool.not_true, Bool.false_eq_true, false_iff]; exact (hm.1 hh).2
 | false =>
  simp only [Bool.not_false, true_iff]
  by_cases hc : ∃ y, lk (keyV b) ys = some y
  · exact hc
  · rw [hm.2 ⟨⟨x, h1⟩, hc⟩] at hh; cases hh
theorem keep_len : (keepL (goneK mx my) (wol xs)).length + (goneK mx my).length = (wol xs).length := by
 rw [← filter_len (hitL (goneK mx my)) (wol xs)]
 congr 1
 have hp : (((wol xs).filter (hitL (goneK mx my))).map keyV).Perm (goneK mx my) := by
  refine (List.perm_ext_iff_of_nodup (((List.filter_sublist (l := wol xs)).map keyV).nodup (srt_nodup (wol_srt xs))) ?_).2 fun k => ?_
  · exact (List.mergeSort_perm _ _).nodup_iff.2 (hx.nd.filter _)
  · rw [List.mem_map]
    constructor
    · rintro ⟨b, hb, rfl⟩
      obtain ⟨h1, h2⟩ := List.mem_filter.1 hb
      exact (hit_mem hx hy ox (wol_ok ox b h1)).1 h2
    · intro hk
      obtain ⟨⟨v, hv⟩, h2⟩ := (gone_mem hx hy).1 hk
      have hkv := (lk_some hv).2
      have hz : keyV (zR v) = k := (keyV_z v).trans hkv
      have hb : zR v ∈ wol xs := wol_mem.2 ⟨v, by rw [hz]; exact hv, rfl⟩
      exact ⟨zR v, List.mem_filter.2 ⟨hb, (hit_mem hx hy ox (wol_ok ox _ hb)).2 (by rw [hz]; exact hk)⟩, hz⟩
 rw [← hp.length_eq, List.length_map]
include oy
theorem law_same : wol (keepL (goneK mx my) (wol xs) ++ annK mx my) = wol ys := by
 refine srt_ext (wol_srt _) (wol_srt _) fun z => ?_
 rw [wol_mem, wol_mem, lk_append]
 generalize keyV z = k
 constructor
 · rintro ⟨x, h1, rfl⟩
   cases ha : lk k (annK mx my) with
   | some a =>
    rw [ha] at h1
    cases h1
    exact ⟨x, ((chg_mem hx hy).1 ((ann_lk hx hy oy).1 ha)).1, rfl⟩
   | none =>
    rw [ha, Option.none_or] at h1
    obtain ⟨h2, h3⟩ := (keep_lk).1 h1
    obtain ⟨⟨v, h4, rfl⟩, y, h5⟩ := (keep_mem hx hy ox).1 h2
    rw [h3] at h4 h5
    refine ⟨y, h5, ?_⟩
    rw [zR_z]
    have hn : ¬ (k, y) ∈ chg mx my := fun hc => by rw [(ann_lk hx hy oy).2 hc] at ha; cases ha
    by_cases hs : ∃ x, lk k xs = some x ∧ sameNA x y
    · obtain ⟨x', h6, h7⟩ := hs
      rw [h4] at h6
      cases h6
      exact zR_same h7
    · exact absurd ((chg_mem hx hy).2 ⟨h5, hs⟩) hn
 · rintro ⟨y, h1, rfl⟩
   by_cases hs : ∃ x, lk k xs = some x ∧ sameNA x y
   · obtain ⟨x, h2, h3⟩ := hs
     have hkx := (lk_some h2).2
     have hz : keyV (zR x) = k := (keyV_z x).trans hkx
     have hb : zR x ∈ keepL (goneK mx my) (wol xs) := (keep_mem hx hy ox).2 ⟨⟨x, by rw [hz]; exact h2, rfl⟩, y, by rw [hz]; exact h1⟩
     have ha : lk k (annK mx my) = none := by
      cases ha : lk k (annK mx my) with
      | none => rfl
      | some a =>
       obtain ⟨h4, h5⟩ := (chg_mem hx hy).1 ((ann_lk hx hy oy).1 ha)
       rw [h1] at h4
       cases h4
       exact absurd ⟨x, h2, h3⟩ h5
     rw [ha, Option.none_or]
     exact ⟨zR x, (keep_lk).2 ⟨hb, hz⟩, by rw [zR_z]; exact (zR_same h3).symm⟩
   · have ha := (ann_lk hx hy oy).2 ((chg_mem hx hy).2 ⟨h1, hs⟩)
     rw [ha]
     exact ⟨y, rfl, rfl⟩
theorem law_new : frOk (annK mx my) (wol xs) (goneK mx my) := by
 intro a ha
 have hc := (chg_mem hx hy).1 ((ann_mem hx hy oy).1 ha)
 have hao := (ann_ok hx hy oy a ha).1
 refine ⟨hao, fun b hb e => ?_, fun g hg e => ?_⟩
 · obtain ⟨x, h1, rfl⟩ := wol_mem.1 hb
   have hs : sameNA x a := same_z e
   refine hc.2 ⟨x, ?_, hs⟩
   have hk : keyV (zR x) = keyV a := (keyV_z x).trans (keyV_of hs.1)
   rw [← hk]; exact h1
 · have := (hit_iff (gone_ok hx hy ox g hg) hao).1 e
   subst this
   exact ((gone_mem hx hy).1 hg).2 ⟨a, hc.1⟩
end
theorem gone_self (my : List (SV × SV)) : goneK my my = [] := by
 unfold goneK
 rw [List.filter_eq_nil_iff.2 (fun k hk h => by rw [dec_iff.2 hk] at h; cases h)]
 exact sortK_nil
theorem ann_self (my : List (SV × SV)) : annK my my = [] := by
 have : chg my my = [] := List.filter_eq_nil_iff.2 (fun e he h => by rw [dec_iff.2 ⟨e.2, he, rfl, rfl⟩] at h; cases h)
 unfold annK
 rw [this, List.map_nil, sortK_nil]; rfl
end Go.Proofs.Ytkbbiaobohlogaa
/- 'AdvertChanges' answers true, whatever it is handed: the law's tree joined with the plain law. -/
namespace Go.Proofs.Ytkbbiaobohlogaa
open Go.Am
set_option maxRecDepth 100000
def preOk (x : SV) : Prop := x = .agg (rE x).cs ∧ okN (rE x).n ∧ nrm33 (rE x).d.path ∧ nrm35 (rE x).d.cl ∧ nrm80 (rE x).d.cm
theorem lgt_sz {r : Rt} (h : lgt r = true) : r.d.path.length ≤ 40 ∧ r.d.cl.length ≤ 20 ∧ r.d.cm.length ≤ 80 := by
 unfold lgt at h
 cases h1 : decide ((r.d.path.length : Int) ≤ 40) with
 | false => rw [h1] at h; cases h
 | true =>
  rw [h1, cond_true] at h
  cases h2 : decide ((r.d.cl.length : Int) ≤ 20) with
  | false => rw [h2] at h; cases h
  | true =>
   rw [h2, cond_true] at h
   have a1 := of_decide_eq_true h1
   have a2 := of_decide_eq_true h2
   have a3 := of_decide_eq_true h
   omega
theorem pre_rt {x : SV} (h : preOk x) (hl : lgt (rE x) = true) : rtOk x := by
 obtain ⟨h1, h2, h3, h4, h5⟩ := h
 obtain ⟨s1, s2, s3⟩ := lgt_sz hl
 exact ⟨⟨h1, h2, ⟨by omega, h3⟩, ⟨by omega, h4⟩, ⟨by omega, h5⟩⟩, by omega, by omega, by omega⟩
theorem lLg_ok {xs : List SV} (h : lLg xs = true) (hp : ∀ x ∈ xs, preOk x) : xs.length ≤ 40 ∧ ∀ x ∈ xs, rtOk x := by
 unfold lLg at h
 rw [Bool.and_eq_true] at h
 have h1 := of_decide_eq_true h.2
 refine ⟨by omega, fun x hx => pre_rt (hp x hx) ?_⟩
 have := h.1
 unfold allLg at this
 rw [List.drop_zero, List.all_eq_true] at this
 exact this x hx
theorem lawM_run {xs ys : List SV} (lx : xs.length ≤ 40) (ly : ys.length ≤ 40) (ox : ∀ x ∈ xs, rtOk x) (oy : ∀ y ∈ ys, rtOk y) :
  crun (lawM xs ys (goneK (lastM xs) (lastM ys)) (annK (lastM xs) (lastM ys)) (goneK (lastM ys) (lastM ys)) (annK (lastM ys) (lastM ys)) (wol xs) ([] ++ keepL (goneK (lastM xs) (lastM ys)) ((wol xs).drop (0 : Int).toNat))) = some (.bool true, []) := by
 have hx := lastM_ok ox
 have hy := lastM_ok oy
 have rx : rsOk xs := ⟨by omega, ox⟩
 have ry : rsOk ys := ⟨by omega, oy⟩
 have hkl := keep_len hx hy ox
 have hwl := wol_len xs
 have hal := ann_len (mx := lastM xs) hy
 have hgo := gone_ok hx hy ox
 have hwo := wol_ok ox
 have hao := ann_ok hx hy oy
 have hsame := law_same hx hy ox oy
 have hnew := law_new hx hy ox oy
 rw [gone_self, ann_self, List.nil_append, show (wol xs).drop (0 : Int).toNat = wol xs from List.drop_zero]
 have hK : ∀ b ∈ keepL (goneK (lastM xs) (lastM ys)) (wol xs), rtOk b := fun b hb => hwo b (List.mem_filter.1 hb).1
 generalize goneK (lastM xs) (lastM ys) = G at *
 generalize annK (lastM xs) (lastM ys) = A at *
 generalize hKd : keepL G (wol xs) = K at *
 have hokL : okL (wol xs) := fun b hb => (hwo b hb).1
 unfold lawM
 rw [crun_gd (dec_iff.2 ⟨rx, ry⟩), crun_gd (dec_iff.2 rx), crun_gd (dec_iff.2 ⟨rfl, rfl, rfl, Int.le_refl _, by omega, by omega, by simp only [List.length_nil]; omega, hgo, hokL⟩)]
 rw [show ((K.length : Int) != w64 (((wol xs).length : Int) - (G.length : Int))) = false by
  rw [show w64 (((wol xs).length : Int) - (G.length : Int)) = ((wol xs).length : Int) - (G.length : Int) from w64_id (by omega) (by omega)]
  simp; omega]
 rw [cond_false, crun_gd (dec_iff.2 ⟨rfl, rfl, rfl, Int.le_refl _, by omega, by omega, by omega, hokL, hgo, hnew⟩), crun_gd (dec_iff.2 ⟨ry, ry⟩), crun_gd (decide_eq_true rfl), el_run (by omega)]
 rw [show (A.drop 0).take A.length = A by simp, grB_run (by omega)]
 have hKA : rsOk (K ++ A) := ⟨by rw [List.length_append]; omega, fun z hz => by
  rcases List.mem_append.1 hz with h | h
  · exact hK z h
  · exact (hao z h).1⟩
 rw [crun_gd (dec_iff.2 ⟨by rw [List.length_append], hKA⟩)]
 unfold lawE
 have hwy := wol_len ys
 have hoy : okL (wol ys) := fun b hb => (wol_ok oy b hb).1
 rw [crun_gd (dec_iff.2 ry), hsame, crun_gd (dec_iff.2 ⟨rfl, rfl, rfl, by omega, hoy, hoy⟩), dec_iff.2 rfl]
 rfl
theorem ki_valid : ValidL Try.prog e3b := loop_valid5 (T := T3b) (sp := true) (fuel := 300) (c := m3b) (μ := kiM) mixTry (ltab_cons hi_valid ltab_nil) (show fillC T3b m3b = c3b by kernel_rfl) (by
 intro N args H v' ups' hb h
 refine ⟨tbl [], fun _ => false, ok0, ?_⟩
 unfold e3b ki_s at h
 simp only [] at h
 split at h
 · rename_i i m n k bs gs ks
   rw [crun_ite] at h
   cases hc : dec _ with
   | false => rw [hc] at h; cases h
   | true =>
    rw [hc, cond_true] at h
    have hok := dec_iff.1 hc
    obtain ⟨h1, h2, h3, h4, h5, h6, h7, h8, h9⟩ := id hok
    have ht := congrArg crun (ki_t N m n k bs gs ks i)
    have hN : Nat.blt (m - i.toNat) (N + 1) = true := hb
    rw [Nat.blt_eq] at hN
    by_cases hi : i < m
    · have la : i.toNat < bs.length := by omega
      have hbk := (okL_at h9 la).1
      rw [decide_eq_true hi, cond_true, crun_gd (dec_iff.2 ⟨h2, h1, Int.le_refl _, h4, la, h5, h8, h9⟩), Nat.zero_add, show w64 (i + 1) = i + 1 from w64_id (by omega) (by omega), Bool.false_or, show gs.drop (0 : Int).toNat = gs from List.drop_zero] at ht
      have hf : keepL gs (bs.drop i.toNat) = (bif !hitL gs (bs.getD i.toNat .junk) then [bs.getD i.toNat .junk] else []) ++ keepL gs (bs.drop (i + 1).toNat) := by
       rw [show (i + 1).toNat = i.toNat + 1 by omega]
       unfold keepL
       rw [List.drop_eq_getElem_cons la, List.filter_cons]
       have e1 : bs.getD i.toNat .junk = bs[i.toNat] := by simp [List.getD_eq_getElem?_getD, la]
       rw [e1]
       cases hitL gs bs[i.toNat] <;> rfl
      rw [hf] at h
      cases hh : hitL gs (bs.getD i.toNat .junk) with
      | true =>
       rw [hh] at ht h
       simp only [Bool.not_true, cond_false, List.nil_append] at ht h
       unfold kiT at ht
       rw [crun_gd (by rw [Nat.blt_eq]; omega), crun_gd (dec_iff.2 ⟨h1, h2, h3, by omega, h5, h6, by omega, h8, h9⟩)] at ht
       exact ⟨_, _, ht.trans h, .same fun _ => rfl⟩
      | false =>
       rw [hh] at ht h
       simp only [Bool.not_false, cond_true] at ht h
       rw [crun_gd (show inB i m = true by unfold inB; simp; omega), crun_gd (decide_eq_true la), gr48_run h3 (by omega), ← hbk] at ht
       unfold kiT at ht
       rw [crun_gd (by rw [Nat.blt_eq]; omega), crun_gd (dec_iff.2 ⟨h1, h2, by simp, by omega, h5, h6, by rw [List.length_append, List.length_singleton]; omega, h8, h9⟩), List.append_assoc] at ht
       exact ⟨_, _, ht.trans h, .same fun _ => rfl⟩
    · rw [decide_eq_false hi, cond_false] at ht
      rw [List.drop_eq_nil_of_le (by omega), show keepL gs [] = [] from rfl, List.append_nil, ← h3] at h
      cases h
      refine ⟨_, _, ht, .ren ⟨2, 3, Nat.le_refl _, by simp [namesS, namesL], fun x c hx => ?_, rfl, fun x => ?_⟩⟩
      · simp only [updF] at hx
        have := HpL_get_some _ _ _ hx
        simp only [List.mem_cons, Prod.mk.injEq, List.not_mem_nil, or_false] at this
        rcases this with ⟨-, rfl⟩ | ⟨-, rfl⟩ | ⟨-, rfl⟩ <;> simp [namesC]
      · match x with
        | 0 => rfl
        | 1 => rfl
        | 2 => rfl
        | 3 => rfl
        | x + 4 => rfl
 · cases h)
theorem law_k : Known Try.prog 3 law_b := ⟨⟨Try.f3, Try.func3, noNum_at noNumTry Try.func3, rfl⟩, bodyL_valid (tbl_cons lives_k (tbl_cons lrs_k (tbl_cons df_k (tbl_cons w8_k (tbl_cons sros_k ok0))))) mixTry (ltab_cons (loop_inN ki_valid (fs := fs3)) (ltab_cons fn_valid ltab_nil)) Try.func3 (show Try.f3.body = some (fillC T3 m3) by kernel_rfl)⟩
theorem law_true {xs ys : List SV} (l1 : xs.length ≤ 9223372036854775807) (l2 : ys.length ≤ 9223372036854775807) (px : ∀ x ∈ xs, preOk x) (py : ∀ y ∈ ys, preOk y) : crun (law_b [.psl 48 xs, .psl 48 ys] []) = some (.bool true, []) := by
 refine (congrArg crun (law_t xs ys)).trans ?_
 rw [crun_gd (dec_iff.2 l1)]
 cases hx : lLg xs with
 | false => rfl
 | true =>
  rw [Bool.not_true, cond_false, crun_gd (dec_iff.2 l2)]
  cases hy : lLg ys with
  | false => rfl
  | true =>
   rw [Bool.not_true, cond_false]
   obtain ⟨a1, a2⟩ := lLg_ok hx px
   obtain ⟨b1, b2⟩ := lLg_ok hy py
   exact lawM_run a1 b1 a2 b2
end Go.Proofs.Ytkbbiaobohlogaa
