/- MsgPieces: its loop: what is read is small, and not too much. -/
import Derived.Test.YtnlmhpancboddaaGreatPart21
import Derived.Test.YtnlmhpancboddaaGreatPart20
import Derived.Test.YtnlmhpancboddaaGreatMachine7
import Derived.Test.YtnlmhpancboddaaGreatMachine6
set_option linter.unusedVariables false
set_option linter.unusedSimpArgs false
namespace Go.Proofs.YtnlmhpancboddaaGreat
open Go.Am
set_option maxRecDepth 100000
theorem upP_small {p : List SV} (hp : p.length ≤ 100000) : smallG (upP p).1.d := by
 unfold upP
 cases !upB p with
 | true => exact small0
 | false =>
  cases (rdQ (p.drop 4) (p.length - 4)).1 != 0 with
  | true => exact small0
  | false =>
   have := rdO_small (es := p.drop 4) (by rw [List.length_drop]; omega)
   rw [List.length_drop] at this
   exact this
theorem rdP_small {k : Int} {p : List SV} (hp : p.length ≤ 100000) : smallG (rdP k p).1.d := by
 by_cases h : k = 2
 · subst h; exact upP_small hp
 · rw [rdP_d h]; exact small0
theorem spF_small {es : List SV} (he : es.length ≤ 100000) : ∀ (f a : Nat) (rs : List SV), (∀ x ∈ rs, smallG (mgOf x).d) → ∀ x ∈ (spF f es a rs).2.2, smallG (mgOf x).d
 | 0, _, _, h => h
 | f + 1, a, rs, h => by
  unfold spF
  cases (hdP (es.drop a)).2 != 0 with
  | true => exact h
  | false =>
   cases (hdP (es.drop a)).1 == 0 with
   | true => exact h
   | false =>
    cases (rdP (dg (es.drop a) 18) (sl (es.drop a) 19 ((hdP (es.drop a)).1.toNat - 19))).2 != 0 with
    | true => exact h
    | false =>
     refine spF_small he f _ _ (fun x hx => ?_)
     rcases List.mem_append.1 hx with h1 | h1
     · exact h x h1
     · rw [List.mem_singleton] at h1
       subst h1
       exact rdP_small (by unfold sl; rw [List.length_take, List.length_drop, List.length_drop]; omega)
theorem spF_cnt (es : List SV) : ∀ (f a : Nat) (rs : List SV), (spF f es a rs).2.2.length ≤ rs.length + f
 | 0, _, _ => Nat.le_refl _
 | f + 1, a, rs => by
  unfold spF
  cases (hdP (es.drop a)).2 != 0 with
  | true => exact Nat.le_add_right _ _
  | false =>
   cases (hdP (es.drop a)).1 == 0 with
   | true => exact Nat.le_add_right _ _
   | false =>
    cases (rdP (dg (es.drop a) 18) (sl (es.drop a) 19 ((hdP (es.drop a)).1.toNat - 19))).2 != 0 with
    | true => exact Nat.le_add_right _ _
    | false =>
     have := spF_cnt es f (a + (hdP (es.drop a)).1.toNat) (rs ++ [mgV (rdP (dg (es.drop a) 18) (sl (es.drop a) 19 ((hdP (es.drop a)).1.toNat - 19))).1])
     rw [List.length_append, List.length_singleton] at this
     show (spF f es _ _).2.2.length ≤ _
     omega
theorem spL_cnt (es : List SV) : (spL es 0 []).2.2.length ≤ es.length := by
 have := spF_cnt es (es.length - 0) 0 []
 rw [List.length_nil, Nat.zero_add, Nat.sub_zero] at this
 exact this
theorem spL_ok {es : List SV} (he : es.length ≤ 9000) : smOkA (spL es 0 []).2.2 := ⟨by have := spL_cnt es; omega, spF_small (by omega) _ _ _ (by simp)⟩
theorem spL_at (es : List SV) : (spL es 0 []).2.1 ≤ es.length := (spF_at (es.length - 0) es 0 [] (Nat.zero_le _)).2.1
theorem lenM_t {k : Nat} (h : k ≤ 1000000) : lenM k = true := by
 have h1 := of_decide_eq_true b52
 unfold lenM
 have h2 : k * Tryz.prog.types[52].bytes ≤ 1000000 * 1000 := Nat.mul_le_mul h h1
 rw [decide_eq_true (by omega), decide_eq_true (by omega)]; rfl
theorem held_more {b : List SV} {d a n : Nat} (h1 : d ≤ a) (h2 : a ≤ n) (h3 : n ≤ b.length) : (b.take a).drop d ++ (b.drop a).take (n - a) = (b.take n).drop d := by
 have : b.take n = b.take a ++ (b.drop a).take (n - a) := by
  rw [← List.take_add]; congr 1; omega
 rw [this, List.drop_append_of_le_length (by rw [List.length_take]; omega)]
theorem elC_all (es : List SV) (K : List SV → CTree) : elC 0 es.length es K = K es := by
 unfold elC
 rw [decide_eq_true rfl, decide_eq_true rfl]; rfl
theorem elC_at {l m : Nat} {es : List SV} (h : l + m ≤ es.length) (K : List SV → CTree) : elC l m es K = K ((es.drop l).take m) := by
 unfold elC
 by_cases h0 : l = 0 ∧ m = es.length
 · obtain ⟨rfl, rfl⟩ := h0
   rw [decide_eq_true rfl, decide_eq_true rfl, List.drop_zero, List.take_length]; rfl
 · rw [decide_eq_true h]
   by_cases h1 : l = 0
   · rw [decide_eq_false (show ¬ m = es.length from fun h2 => h0 ⟨h1, h2⟩), Bool.and_false]; rfl
   · rw [decide_eq_false h1, Bool.false_and]; rfl
theorem left_ok {hd : List SV} {e : Nat} (he : e ≤ hd.length) (hl : hd.length ≤ 1000000) (K : List SV → List SV → CTree) :
  (elC 0 (hd.drop e).length (hd.drop e) fun xs => bif decide (0 ≤ w64 ((hd.length : Int) - (hd.drop e).length)) && decide (w64 ((hd.length : Int) - (hd.drop e).length) ≤ hd.length) && decide ((hd.length : Int) ≤ hd.length) then
  elC (0 + (w64 ((hd.length : Int) - (hd.drop e).length)).toNat) ((hd.length : Int).toNat - (w64 ((hd.length : Int) - (hd.drop e).length)).toNat) hd fun ys => K xs ys else .fail) = K (hd.drop e) (hd.drop e) := by
 rw [elC_all]
 have h1 : (hd.drop e).length = hd.length - e := List.length_drop
 have h2 : w64 ((hd.length : Int) - (hd.drop e).length) = e := by
  rw [h1]
  exact (w64_id (by omega) (by omega)).trans (by omega)
 rw [h2, decide_eq_true (show (0 : Int) ≤ e by omega), decide_eq_true (show (e : Int) ≤ hd.length by omega), decide_eq_true (Int.le_refl _), Bool.and_self, Bool.and_self, cond_true]
 rw [elC_at (by omega), Nat.zero_add, show ((e : Nat) : Int).toNat = e from rfl, show ((hd.length : Nat) : Int).toNat = hd.length from rfl, List.take_of_length_le (by rw [h1]; omega)]
end Go.Proofs.YtnlmhpancboddaaGreat
/- MsgPieces: its loop, valid. -/
namespace Go.Proofs.YtnlmhpancboddaaGreat
open Go.Am
set_option maxRecDepth 100000
theorem CoL.junk (P : Program) : ∀ (vs : List SV), CoL P vs (vs.map fun _ => .junk)
 | [] => .nil
 | _ :: vs => .cons (fun _ _ _ _ _ _ => .junk) (CoL.junk P vs)
theorem mp_exit {ms gs hs : List SV} {fe fa : Int} : ChainL Tryz.prog (mpH fe fa gs hs) (.tup [.int .i64 2, .junk, .psl 52 ms, .ptr 0 0, .qs 1 25 0 gs.length, .qs 2 1 0 hs.length]) []
  (.tup [.int .i64 2, .junk, .psl 52 ms, .ptr 0 0, .qs 3 25 0 gs.length, .qs 4 1 0 hs.length]) [(1, none), (2, none), (3, some (.seq 52 gs)), (4, some (.seq 5 hs))] := by
 refine .trans (v1 := .tup [.int .i64 2, .junk, .psl 52 ms, .ptr 0 0, .qs 3 25 0 gs.length, .qs 2 1 0 hs.length]) (ups1 := [(1, none), (3, some (.seq 52 gs))]) (.ren ⟨1, 3, by simp [mpH], by simp [namesS, namesL], fun x c hx => ?_, rfl, fun x => ?_⟩) (.ren ⟨2, 4, by simp [mpH], by simp [namesS, namesL], fun x c hx => ?_, rfl, fun x => ?_⟩)
 · simp only [updF] at hx
   have := HpL_get_some _ _ _ hx
   simp only [mpH, List.mem_cons, Prod.mk.injEq, List.not_mem_nil, or_false] at this
   rcases this with ⟨_, rfl⟩ | ⟨_, rfl⟩ | ⟨_, rfl⟩ <;> simp [namesC, namesL, namesS]
 · match x with
   | 0 => rfl | 1 => rfl | 2 => rfl | 3 => rfl
   | x + 4 =>
    simp only [updF, mpH, HpL.get, show ¬ (x + 4 = 1) by omega, show ¬ (x + 4 = 3) by omega, if_false, show Nat.beq 0 (x + 4) = false from nb_f (by omega), show Nat.beq 1 (x + 4) = false from nb_f (by omega), show Nat.beq 2 (x + 4) = false from nb_f (by omega), cond_false, Option.map_none]
 · simp only [updF] at hx
   by_cases h3 : x = 3
   · rw [if_pos h3] at hx; cases hx; simp [namesC]
   · rw [if_neg h3] at hx
     by_cases h1 : x = 1
     · rw [if_pos h1] at hx; cases hx
     · rw [if_neg h1] at hx
       have := HpL_get_some _ _ _ hx
       simp only [mpH, List.mem_cons, Prod.mk.injEq, List.not_mem_nil, or_false] at this
       rcases this with ⟨_, rfl⟩ | ⟨_, rfl⟩ | ⟨_, rfl⟩ <;> simp [namesC, namesL, namesS]
 · match x with
   | 0 => rfl | 1 => rfl | 2 => rfl | 3 => rfl | 4 => rfl
   | x + 5 =>
    simp only [updF, mpH, HpL.get, show ¬ (x + 5 = 1) by omega, show ¬ (x + 5 = 2) by omega, show ¬ (x + 5 = 3) by omega, show ¬ (x + 5 = 4) by omega, if_false, show Nat.beq 0 (x + 5) = false from nb_f (by omega), show Nat.beq 1 (x + 5) = false from nb_f (by omega), show Nat.beq 2 (x + 5) = false from nb_f (by omega), cond_false, Option.map_none]
theorem mp_bad {fe fa : Int} {gs hs xs ys : List SV} {vs : List SV} (hv : vs.length = 4) : ChainL Tryz.prog (mpH fe fa gs hs) (.tup (.int .i64 1 :: .bool true :: vs)) [(1, none), (2, none), (3, some (.seq 52 xs)), (4, some (.seq 5 ys))]
  (.tup [.int .i64 1, .bool true, .junk, .junk, .junk, .junk]) [(0, none), (1, none), (2, none)] := by
 refine .told ⟨1, .bool true :: vs, [.bool true, .junk, .junk, .junk, .junk], rfl, rfl, .cons .rfl' ?_, fun x c' hx => ?_⟩
 · have := CoL.junk Tryz.prog vs
   match vs, hv with
   | [_, _, _, _], _ => exact this
 · match x with
   | 0 => cases hx
   | 1 => cases hx
   | 2 => cases hx
   | x + 3 =>
    simp only [updF, mpH, HpL.get, show ¬ (x + 3 = 0) by omega, show ¬ (x + 3 = 1) by omega, show ¬ (x + 3 = 2) by omega, if_false, show Nat.beq 0 (x + 3) = false from nb_f (by omega), show Nat.beq 1 (x + 3) = false from nb_f (by omega), show Nat.beq 2 (x + 3) = false from nb_f (by omega), cond_false] at hx
    cases hx
theorem mpOk1_ok {N : Nat} {b sz ms gs hd : List SV} {fe fa at_ dn i : Int} {r : Int × Nat × List SV} (hr : r.2.1 ≤ hd.length) (hl : hd.length ≤ 1000000) : mpOk1 N b sz ms fe fa gs hd hd.length at_ dn i r =
  mpN N b sz ms fe fa (gs ++ r.2.2) (hd.drop r.2.1) (gs.length + r.2.2.length) (hd.drop r.2.1).length at_ (w64 (w64 (dn + hd.length) - (hd.drop r.2.1).length)) (w64 (i + 1)) := by
 unfold mpOk1
 rw [decide_eq_false (by rw [List.length_drop]; omega), cond_false]
 refine (left_ok hr hl (fun xs ys => bif !(strB xs == strB ys) then _ else _)).trans ?_
 rw [show (strB (hd.drop r.2.1) == strB (hd.drop r.2.1)) = true by simp]; rfl
theorem mp_step {N : Nat} {b sz ms gs hs : List SV} {fe fa at_ dn i nx : Int} {v' : SV} {ups' : List (Nat × Option Chunk)} (hi : mpInv b sz ms fe fa gs hs at_ dn i) (hle : i ≤ sz.length) (h1 : at_ ≤ nx) (h2 : nx ≤ b.length) (h3 : i = sz.length → nx = b.length)
  (hN : ((sz.length : Int) + 1 - i).toNat < N + 1) (hr : crun (mpR b ms) = some (v', ups')) :
  ∃ v ups, crun (mpT N b sz ms fe fa gs hs gs.length hs.length at_ dn i nx) = some (v, ups) ∧ ChainL Tryz.prog (mpH fe fa gs hs) v ups v' ups' := by
 obtain ⟨hb, hl, hz, rfl, rfl, rfl, i0, i1, a0, a1, d0, hp, rfl, _⟩ := hi
 obtain ⟨hda, hm⟩ := spL_more (b := b) (a := at_.toNat) (c := nx.toNat) (by omega) (by omega) hp
 have hhl : ((b.take at_.toNat).drop dn.toNat).length = at_.toNat - dn.toNat := by rw [List.length_drop, List.length_take]; omega
 have hnl : ((b.take nx.toNat).drop dn.toNat).length = nx.toNat - dn.toNat := by rw [List.length_drop, List.length_take]; omega
 have hq : sl b at_.toNat (nx.toNat - at_.toNat) = (b.drop at_.toNat).take (nx.toNat - at_.toNat) := rfl
 have hql : ((b.drop at_.toNat).take (nx.toNat - at_.toNat)).length = nx.toNat - at_.toNat := by rw [List.length_take, List.length_drop]; omega
 have hhd := held_more hda (show at_.toNat ≤ nx.toNat by omega) (show nx.toNat ≤ b.length by omega)
 have hbd : byl ((b.take nx.toNat).drop dn.toNat) := fun v hv => hb v (List.mem_of_mem_take (List.mem_of_mem_drop hv))
 have hgc : gs.length ≤ 9000 := by
  have := spL_cnt (b.take at_.toNat)
  rw [hp, List.length_take] at this
  have h9 : ((0, dn.toNat, gs) : Int × Nat × List SV).2.2 = gs := rfl
  rw [h9] at this
  omega
 have hrc := spL_cnt ((b.take nx.toNat).drop dn.toNat)
 have hra := spL_at ((b.take nx.toNat).drop dn.toNat)
 have htk := spL_take (es := b) (m := nx.toNat) (by omega) []
 unfold mpT
 rw [slI_ok (i := at_.toNat) (j := nx.toNat) (by omega) (by omega) (by omega) (by omega), hq, decide_eq_true rfl, cond_true]
 have hlen : ((b.take at_.toNat).drop dn.toNat).length + ((b.drop at_.toNat).take (nx.toNat - at_.toNat)).length = ((b.take nx.toNat).drop dn.toNat).length := by omega
 rw [hhd, hlen, lenO_t (by omega), cond_true, dec_iff.2 ⟨hbd, rfl, by omega⟩, cond_true]
 generalize hhh : (b.take nx.toNat).drop dn.toNat = hd at *
 generalize hrr : spL hd 0 [] = r at *
 simp only []
 rw [hm] at htk
 cases he : r.1 == 0 with
 | true =>
  have he' : r.1 = 0 := by simpa using he
  rw [cond_true, decide_eq_true trivial, cond_true, lenM_t (by omega), cond_true]
  rw [mpOk1_ok hra (by omega)]
  have hdl : (hd.drop r.2.1).length = hd.length - r.2.1 := List.length_drop
  have hdn : w64 (w64 (dn + hd.length) - (hd.drop r.2.1).length) = dn + r.2.1 := by
   rw [show w64 (dn + hd.length) = dn + hd.length from w64_id (by omega) (by omega), hdl]
   exact (w64_id (by omega) (by omega)).trans (by omega)
  have hi1 : w64 (i + 1) = i + 1 := w64_id (by omega) (by omega)
  unfold mpN
  have hdt : (dn + (r.2.1 : Int)).toNat = dn.toNat + r.2.1 := by omega
  have k1 : spL (b.take nx.toNat) 0 [] = (0, (dn + (r.2.1 : Int)).toNat, gs ++ r.2.2) := by rw [hm, he', hdt]
  have k2 : hd.drop r.2.1 = (b.take nx.toNat).drop (dn + (r.2.1 : Int)).toNat := by rw [hdt, ← hhh, List.drop_drop]
  rw [hdn, hi1, show Nat.blt ((sz.length : Int) + 1 - (i + 1)).toNat N = true by rw [Nat.blt_eq]; omega, cond_true, dec_iff.2 ⟨by rw [List.length_append], rfl, hb, hl, hz, rfl, rfl, rfl, by omega, by omega, by omega, h2, by omega, k1, k2, fun h => h3 (by omega)⟩, cond_true]
  exact ⟨_, _, hr, .same fun _ => rfl⟩
 | false =>
  have he' : r.1 ≠ 0 := by simpa using he
  have hall := htk.1 he'
  rw [cond_false, decide_eq_true trivial, cond_true, lenM_t (by omega), cond_true, show (r.1 != 0) = true by simpa using he', cond_true]
  unfold mpBad1
  rw [hall]
  have hok := spL_ok hl
  rw [hall] at hok
  unfold fltA
  simp only []
  rw [he, cond_false, show (r.1 == r.1) = true by simp, cond_true, show w64 (dn + (r.2.1 : Int)) = dn + r.2.1 from w64_id (by omega) (by omega), show ((dn + (r.2.1 : Int)) == ((dn.toNat + r.2.1 : Nat) : Int)) = true by rw [beq_iff_eq]; omega, cond_true, dec_iff.2 ⟨trivial, by rw [List.length_append], hok⟩, cond_true]
  unfold mpR at hr
  rw [hall, he, cond_false] at hr
  cases hr
  exact ⟨_, _, rfl, mp_bad rfl⟩
theorem mp_valid : ValidL Tryz.prog e4 := loop_valid5 (T := ltab []) (sp := true) (fuel := 300) (c := c4) (μ := mpM) mixTry ltab_nil (show fillC (ltab []) c4 = c4 by kernel_rfl) (by
 intro N args H v' ups' hbt hr
 unfold e4 mp_s at hr
 simp only [] at hr
 split at hr
 · rename_i b sz ms g h at_ dn i fe fa gs hs
   rw [crun_ite] at hr
   cases hc : dec (g = gs.length ∧ h = hs.length ∧ mpInv b sz ms fe fa gs hs at_ dn i) with
   | false => rw [hc] at hr; cases hr
   | true =>
    rw [hc, cond_true] at hr
    obtain ⟨rfl, rfl, hi⟩ := dec_iff.1 hc
    have hN : Nat.blt ((sz.length : Int) + 1 - i).toNat (N + 1) = true := hbt
    rw [Nat.blt_eq] at hN
    refine ⟨κmp, ιmp, mpOk, ?_⟩
    have ht := mp_t N b sz ms fe fa gs hs gs.length hs.length at_ dn i
    have hr' : crun (mpR b ms) = some (v', ups') := by rw [crun_ite] at hr; unfold mpR; cases hq : (spL b 0 []).1 == 0 <;> rw [hq] at hr <;> exact hr
    have step : ∀ nx, at_ ≤ nx → nx ≤ b.length → i ≤ sz.length → (i = sz.length → nx = b.length) → crun (loopOnce Tryz.prog κmp ιmp (ltab []) true 300 e4 { e4 with s := boundT mpM mp_s N } c4 (mpA b sz ms gs.length hs.length at_ dn i) (mpH fe fa gs hs)) = crun (mpT N b sz ms fe fa gs hs gs.length hs.length at_ dn i nx) →
      ∃ v ups, crun (loopOnce Tryz.prog κmp ιmp (ltab []) true 300 e4 { e4 with s := boundT mpM mp_s N } c4 (mpA b sz ms gs.length hs.length at_ dn i) (mpH fe fa gs hs)) = some (v, ups) ∧ ChainL Tryz.prog (mpH fe fa gs hs) v ups v' ups' := fun nx h1 h2 h0 h3 he => by
     rw [he]; exact mp_step hi h0 h1 h2 h3 hN hr'
    obtain ⟨hb, hl, hz, hms, hfe, hfa, i0, i1, a0, a1, d0, hp, hhs, hend⟩ := hi
    by_cases hle : i ≤ sz.length
    · rw [decide_eq_true hle, cond_true] at ht
      by_cases hlt : i < sz.length
      · have hn : w64 (w64 ((b.length : Int) - at_) + 1) = (b.length : Int) - at_ + 1 := by
          rw [show w64 ((b.length : Int) - at_) = (b.length : Int) - at_ from w64_id (by omega) (by omega)]
          exact w64_id (by omega) (by omega)
        rw [decide_eq_true hlt, cond_true, inB_ok i0 hlt, cond_true, hn, decide_eq_true (by omega), cond_true] at ht
        have hk := pck_rng (x := asI (sz.getD i.toNat .junk)) (n := (b.length : Int) - at_ + 1) (by omega) (by omega)
        generalize pck (asI (sz.getD i.toNat .junk)) ((b.length : Int) - at_ + 1) = k at *
        rw [show w64 (at_ + k) = at_ + k from w64_id (by omega) (by omega)] at ht
        exact step (at_ + k) (by omega) (by omega) hle (by omega) (congrArg crun ht)
      · rw [decide_eq_false hlt, cond_false] at ht
        exact step b.length a1 (Int.le_refl _) hle (fun _ => rfl) (congrArg crun ht)
    · rw [decide_eq_false hle, cond_false] at ht
      have hat := hend (by omega)
      rw [show at_.toNat = b.length by omega, List.take_length] at hp hhs
      refine ⟨_, _, (congrArg crun ht).trans rfl, ?_⟩
      unfold mpR at hr'
      rw [hp, show ((0 : Int) == 0) = true from rfl, cond_true] at hr'
      rw [hp] at hms
      have hgs : ms = gs := hms
      subst hgs
      subst hhs
      cases hr'
      exact mp_exit
 · cases hr)
end Go.Proofs.YtnlmhpancboddaaGreat
/- The laws about messages: what they share. -/
namespace Go.Proofs.YtnlmhpancboddaaGreat
open Go.Am
set_option maxRecDepth 100000
def lives_s : CSumm := fun args H => match args, H with
 | [], [] => .ret (.bool true) []
 | _, _ => .fail
theorem lives_t : bodyC Tryz.prog (openT Tryz.prog (tbl []) 300 8) (fun g => inl (tbl []) g && hasBody Tryz.prog g) true 300 Tryz.f7 [] [] = .ret (.bool true) [] := by kernel_rfl
theorem lives_k : Known Tryz.prog 7 lives_s := known_of_bodyC noNumTry mixTry (openT_ok noNumTry mixTry ok0 300 8) Tryz.func7 rfl (by
 intro args H v ups h
 unfold lives_s at h
 split at h
 · exact (congrArg crun lives_t).trans h
 · cases h)
theorem Tryz.own : ownKnob Tryz.prog.godebug = none := by kernel_rfl
theorem laidTryz : laidOutB Tryz.prog = true := by kernel_rfl
theorem mapsTryz : mapsRowed Tryz.prog = true := by kernel_rfl
theorem fullTryz : ((List.range Tryz.prog.types.size).all fun t => match Tryz.prog.underlying t with | some (.slice e) => decide (0 < Tryz.prog.cellsOf e) | _ => true) = true := by kernel_rfl
theorem byl_of {l : List SV} (h : ∀ x ∈ l, OkV Tryz.prog 5 x) : byl l := by
 intro x hx
 obtain ⟨n, rfl, hw⟩ := (h x hx).int_inv Tryz.underlying5
 refine ⟨n, rfl, ?_⟩
 simp [Lit.wf, IntKind.min, IntKind.max, IntKind.signed, IntKind.bits] at hw
 omega
end Go.Proofs.YtnlmhpancboddaaGreat
/- MsgPieces: the law's tree. -/
namespace Go.Proofs.YtnlmhpancboddaaGreat
open Go.Am
set_option maxRecDepth 100000
noncomputable abbrev κpc := tbl [(7, lives_s), (9, split2_s), (11, sames_s), (12, pick_s)]
theorem pcOk : KOk Tryz.prog κpc := tbl_cons lives_k (tbl_cons split2_k (tbl_cons sames_k (tbl_cons pick_k ok0)))
abbrev fs4 : List (Option (Nat × Nat)) := [none, none, none, none, some (52, 25), some (5, 1), none, none, none]
noncomputable def e4i : LEnt := { e4 with s := inS fs4 mp_s }
theorem mp_in : ValidL Tryz.prog e4i := loop_in mp_valid (fs := fs4) ⟨fun h => absurd h (by decide), fun _ => ⟨Tryz.underlying5, by kernel_rfl⟩, trivial⟩
noncomputable abbrev T4 : LTab := ltab [("m", e4i)]
noncomputable abbrev m4 : Code := markC [(10, "m")] body4
noncomputable def law4_b : CSumm := bodyCL Tryz.prog (openT Tryz.prog κpc 300 5) (fun g => inl κpc g && hasBody Tryz.prog g) T4 true 300 Tryz.f4 m4
theorem law4_k0 : Known Tryz.prog 4 law4_b := ⟨⟨Tryz.f4, Tryz.func4, noNum_at noNumTry Tryz.func4, rfl⟩, bodyL_valid (openT_ok noNumTry mixTry pcOk 300 5) mixTry (ltab_cons mp_in ltab_nil) Tryz.func4 (show Tryz.f4.body = some (fillC T4 m4) by kernel_rfl)⟩
def rtB (b : Bool) : CTree := .ret (.bool b) []
noncomputable def pcEnd (ms hs : List SV) (K : List SV → CTree) : CTree := bif dec (ms = ms ∧ ms.length = ms.length ∧ smOkA ms) then elC 0 hs.length hs fun xs => K xs else .fail
noncomputable def pcR (b sz : List SV) (r : Int × Nat × List SV) : CTree :=
 bif r.1 == 0 then
  (bif dec (0 = ([] : List SV).length ∧ 0 = ([] : List SV).length ∧ mpInv b sz r.2.2 0 0 [] [] 0 0 0) then
   (bif (spL b 0 []).1 == 0 then pcEnd r.2.2 (b.drop (spL b 0 []).2.1) fun xs => elC 0 (b.drop r.2.1).length (b.drop r.2.1) fun ys => rtB (strB xs == strB ys) else rtB true) else .fail)
 else
  (bif dec (0 = ([] : List SV).length ∧ 0 = ([] : List SV).length ∧ mpInv b sz r.2.2 r.1 r.2.1 [] [] 0 0 0) then
   (bif (spL b 0 []).1 == 0 then bif (r.1 == 0 && (r.2.1 : Int) == 0) then pcEnd r.2.2 (b.drop (spL b 0 []).2.1) fun xs => rtB (strB xs == []) else rtB false else rtB true) else .fail)
theorem law4_t (b sz : List SV) : law4_b [.psl 5 b, .psl 3 sz] [] = bif (bif decide ((b.length : Int) > 9000) then true else decide ((sz.length : Int) > 40)) then rtB true else
 bif dec (byl b ∧ b.length ≤ 1000000) then pcR b sz (spL b 0 []) else .fail := by kernel_rfl
end Go.Proofs.YtnlmhpancboddaaGreat
