/- Messages: Split. -/
import Derived.Test.YtnlmhpancboddaaGreatPart18
import Derived.Test.YtnlmhpancboddaaGreatPart16
import Derived.Test.YtnlmhpancboddaaGreatPart14
set_option linter.unusedVariables false
set_option linter.unusedSimpArgs false
namespace Go.Proofs.YtnlmhpancboddaaGreat
open Go.Am
set_option maxRecDepth 100000
noncomputable abbrev Tsp : LTab := ltab [("m", e31)]
noncomputable abbrev Msp : Nat → Option Code := mtab [(31, m31)]
noncomputable abbrev b9 : Code := Tryz.f9.body.getD .skip
noncomputable def split_b : CSumm := bodyCM Tryz.prog κsp ιsp Tsp Msp true 300 Tryz.f9 b9
theorem split_k0 : Known Tryz.prog 9 split_b :=
 ⟨⟨Tryz.f9, Tryz.func9, noNum_at noNumTry Tryz.func9, rfl⟩, bodyM_valid spOk2 mixTry (ltab_cons sps_valid ltab_nil) (mtab_cons Tryz.func31 (show Tryz.f31.body = some (fillC Tsp m31) by kernel_rfl) mtab_nil) Tryz.func9 (show Tryz.f9.body = some (fillC Tsp b9) by kernel_rfl)⟩
noncomputable def restC (n : Nat) (es : List SV) (e : Int) (K : Nat → List SV → CTree) : CTree :=
 bif decide (0 ≤ e) && decide (e ≤ n) && decide ((n : Int) ≤ n) then
  bif decide (0 + e.toNat = 0) && decide ((n : Int).toNat - e.toNat = es.length) then (bif lenO (([] : List SV).length + es.length) then K (([] : List SV).length + es.length) ([] ++ es) else .fail)
  else bif decide (0 + e.toNat + ((n : Int).toNat - e.toNat) ≤ es.length) then (bif lenO (([] : List SV).length + ((es.drop (0 + e.toNat)).take ((n : Int).toNat - e.toNat)).length) then K (([] : List SV).length + ((es.drop (0 + e.toNat)).take ((n : Int).toNat - e.toNat)).length) ([] ++ ((es.drop (0 + e.toNat)).take ((n : Int).toNat - e.toNat))) else .fail) else .fail else .fail
def fl0 : SV := .agg [.int .i64 0, .int .i64 0]
noncomputable def splitK (n : Nat) (es : List SV) (r : Int × Nat × List SV) : CTree :=
 bif decide (r.2.2.length = 0) then (bif r.1 == 0 then restC n es 0 fun k xs => .ret (.tup [.nils, .qs 1 1 0 k, fl0]) [(1, some (.seq 5 xs))] else .ret (.tup [.nils, .nils, .agg [.int .i64 r.1, .int .i64 r.2.1]]) [])
 else bif r.1 == 0 then restC n es r.2.1 fun k xs => .ret (.tup [.qs 1 25 0 r.2.2.length, .qs 2 1 0 k, fl0]) [(1, some (.seq 52 r.2.2)), (2, some (.seq 5 xs))] else .ret (.tup [.qs 1 25 0 r.2.2.length, .nils, .agg [.int .i64 r.1, .int .i64 r.2.1]]) [(1, some (.seq 52 r.2.2))]
theorem split_t (n : Nat) (es : List SV) : split_b [.qs 0 1 0 n] [(0, .seq 5 es)] = bif dec (6 = 6 ∧ 7 = 7 ∧ HS0 n es 0 = HS0 n es 0 ∧ spO n es 0 []) then splitK n es (spL es (0 : Int).toNat []) else .fail := by kernel_rfl
theorem restC_ok {n : Nat} {es : List SV} {a : Nat} {e : Int} (he : e = a) (hn : n = es.length) (hl : es.length ≤ 1000000) (ha : a ≤ es.length) (K : Nat → List SV → CTree) : restC n es e K = K (es.drop a).length (es.drop a) := by
 subst he hn
 unfold restC
 rw [decide_eq_true (show (0 : Int) ≤ a by omega), decide_eq_true (show (a : Int) ≤ es.length by omega), decide_eq_true (Int.le_refl _), show ((a : Nat) : Int).toNat = a from rfl, show ((es.length : Nat) : Int).toNat = es.length from rfl]
 simp only [Bool.and_self, cond_true, List.length_nil, Nat.zero_add, List.nil_append]
 have hs : (es.drop a).take (es.length - a) = es.drop a := List.take_of_length_le (by rw [List.length_drop]; omega)
 by_cases h0 : a = 0
 · subst h0
   rw [decide_eq_true rfl, decide_eq_true (show es.length - 0 = es.length by omega), lenO_t hl]; rfl
 · rw [decide_eq_false h0, Bool.false_and, cond_false, decide_eq_true (show a + (es.length - a) ≤ es.length by omega), cond_true, hs, lenO_t (by rw [List.length_drop]; omega), cond_true]
theorem spF_at : ∀ (f : Nat) (es : List SV) (a : Nat) (rs : List SV), a ≤ es.length → a ≤ (spF f es a rs).2.1 ∧ (spF f es a rs).2.1 ≤ es.length ∧ ((spF f es a rs).2.2.length = rs.length → (spF f es a rs).2.1 = a)
 | 0, _, a, _, h => ⟨Nat.le_refl _, h, fun _ => rfl⟩
 | f + 1, es, a, rs, h => by
  unfold spF
  cases c1 : (hdP (es.drop a)).2 != 0 with
  | true => exact ⟨Nat.le_refl _, h, fun _ => rfl⟩
  | false =>
   rw [cond_false]
   cases c2 : (hdP (es.drop a)).1 == 0 with
   | true => exact ⟨Nat.le_refl _, h, fun _ => rfl⟩
   | false =>
    rw [cond_false]
    have hc := hdP_cases (es.drop a) (by simpa using c1)
    have h0 : (hdP (es.drop a)).1 ≠ 0 := by simpa using c2
    obtain ⟨h1, h2, h3⟩ := hc.resolve_left h0
    rw [List.length_drop] at h2
    cases (rdP (dg (es.drop a) 18) (sl (es.drop a) 19 ((hdP (es.drop a)).1.toNat - 19))).2 != 0 with
    | true => exact ⟨Nat.le_refl _, h, fun _ => rfl⟩
    | false =>
     rw [cond_false]
     obtain ⟨g1, g2, g3⟩ := spF_at f es (a + (hdP (es.drop a)).1.toNat) (rs ++ [mgV (rdP (dg (es.drop a) 18) (sl (es.drop a) 19 ((hdP (es.drop a)).1.toNat - 19))).1]) (by omega)
     refine ⟨by omega, g2, fun hx => ?_⟩
     have := spF_len f es (a + (hdP (es.drop a)).1.toNat) (rs ++ [mgV (rdP (dg (es.drop a) 18) (sl (es.drop a) 19 ((hdP (es.drop a)).1.toNat - 19))).1])
     rw [List.length_append, List.length_singleton] at this
     omega
noncomputable def splitR (es : List SV) (r : Int × Nat × List SV) : CTree :=
 .ite (r.1 == 0) (.ret (.tup [.psl 52 r.2.2, .qs 1 1 0 (es.drop r.2.1).length, fl0]) [(1, some (.seq 5 (es.drop r.2.1)))]) (.ret (.tup [.psl 52 r.2.2, .nils, .agg [.int .i64 r.1, .int .i64 r.2.1]]) [])
noncomputable def splitT (es : List SV) (r : Int × Nat × List SV) : CTree :=
 .ite (r.1 == 0) (.ite (decide (r.2.2.length = 0)) (.ret (.tup [.psl 52 r.2.2, .qs 1 1 0 (es.drop r.2.1).length, fl0]) [(1, some (.seq 5 (es.drop r.2.1)))]) (.ret (.tup [.psl 52 r.2.2, .qs 2 1 0 (es.drop r.2.1).length, fl0]) [(2, some (.seq 5 (es.drop r.2.1)))]))
  (.ret (.tup [.psl 52 r.2.2, .nils, .agg [.int .i64 r.1, .int .i64 r.2.1]]) [])
noncomputable def splitt_s : CSumm := fun args H => match args, H with
 | [.qs 0 1 0 n], [(0, .seq 5 es)] => .ite (dec (byl es ∧ n = es.length ∧ es.length ≤ 1000000)) (splitT es (spL es 0 [])) .fail
 | _, _ => .fail
theorem splitt_k : Known Tryz.prog 9 splitt_s := known_told split_k0 (by
 intro args H v' ups' h
 unfold splitt_s at h
 split at h
 · rename_i n es
   rw [crun_ite] at h
   cases hc : dec (byl es ∧ n = es.length ∧ es.length ≤ 1000000) with
   | false => rw [hc] at h; cases h
   | true =>
    rw [hc, cond_true] at h
    obtain ⟨hb, rfl, hl⟩ := dec_iff.1 hc
    have ht := split_t es.length es
    rw [dec_iff.2 ⟨rfl, rfl, rfl, hb, rfl, hl, by omega, by omega, by simp; omega⟩, cond_true, show (0 : Int).toNat = 0 from rfl] at ht
    obtain ⟨a1, a2, a3⟩ := spF_at (es.length - 0) es 0 [] (Nat.zero_le _)
    have a3' : (spL es 0 []).2.2.length = 0 → (spL es 0 []).2.1 = 0 := a3
    have a2' : (spL es 0 []).2.1 ≤ es.length := a2
    generalize spL es 0 [] = r at *
    have hg : ∀ x c', HpL.get [(0, .seq 5 es)] x = some c' → x = 0 := fun x c' hx => by
     have := HpL_get_some _ _ _ hx
     simp at this
     exact this.1
    unfold splitK at ht
    unfold splitT at h
    rw [crun_ite] at h
    by_cases hk : r.2.2.length = 0
    · rw [decide_eq_true hk, cond_true] at ht
      have hz := a3' hk
      have hr : r.2.2 = [] := List.length_eq_zero_iff.1 hk
      rw [hr] at h
      cases he : r.1 == 0 with
      | true =>
       rw [he, cond_true, restC_ok (e := 0) (a := 0) (by decide) rfl hl (Nat.zero_le _)] at ht
       rw [he, cond_true, crun_ite, decide_eq_true (show ([] : List SV).length = 0 from rfl), cond_true, hz] at h
       cases h
       exact ⟨_, _, congrArg crun ht, .inr ⟨.tup (.cons .nils .rfl'), fun x c' hx => ⟨c', hx, .rfl'⟩⟩⟩
      | false =>
       rw [he, cond_false] at ht
       rw [he, cond_false] at h
       cases h
       exact ⟨_, _, congrArg crun ht, .inr ⟨.tup (.cons .nils .rfl'), fun x c' hx => ⟨c', hx, .rfl'⟩⟩⟩
    · rw [decide_eq_false hk, cond_false] at ht
      cases he : r.1 == 0 with
      | true =>
       rw [he, cond_true, restC_ok (a := r.2.1) rfl rfl hl a2'] at ht
       rw [he, cond_true, crun_ite, decide_eq_false hk, cond_false] at h
       cases h
       refine ⟨_, _, congrArg crun ht, .inl ⟨1, 52, r.2.2, rfl, .tup (.cons (.qs rfl) .rfl'), fun x c' hx => ?_⟩⟩
       simp only [updF] at hx
       by_cases h2 : x = 2
       · subst h2; exact ⟨by decide, c', hx, .rfl'⟩
       · rw [if_neg h2] at hx
         have h0 := hg x c' hx
         subst h0
         exact ⟨by decide, c', hx, .rfl'⟩
      | false =>
       rw [he, cond_false] at ht
       rw [he, cond_false] at h
       cases h
       refine ⟨_, _, congrArg crun ht, .inl ⟨1, 52, r.2.2, rfl, .tup (.cons (.qs rfl) .rfl'), fun x c' hx => ?_⟩⟩
       have h0 := hg x c' hx
       subst h0
       exact ⟨by decide, c', hx, .rfl'⟩
 · cases h)
noncomputable def split_s : CSumm := fun args H => match args, H with
 | [.qs 0 1 0 n], [(0, .seq 5 es)] => .ite (dec (byl es ∧ n = es.length ∧ es.length ≤ 1000000)) (splitR es (spL es 0 [])) .fail
 | _, _ => .fail
theorem split_ren {es xs rs : List SV} {k : Nat} : Renamed [(0, .seq 5 es)] (.tup [.psl 52 rs, .qs 2 1 0 k, fl0]) [(2, some (.seq 5 xs))] (.tup [.psl 52 rs, .qs 1 1 0 k, fl0]) [(1, some (.seq 5 xs))] := by
 refine ⟨2, 1, by simp, by simp [namesS, namesL, fl0], fun x c hx => ?_, rfl, fun x => ?_⟩
 · simp only [updF] at hx
   by_cases h2 : x = 2
   · rw [if_pos h2] at hx; cases hx; simp [namesC]
   · rw [if_neg h2] at hx
     have := HpL_get_some _ _ _ hx
     simp at this
     obtain ⟨_, rfl⟩ := this
     simp [namesC]
 · match x with
   | 0 => rfl | 1 => rfl | 2 => rfl
   | x + 3 =>
    simp only [updF, HpL.get, show ¬ (x + 3 = 1) by omega, show ¬ (x + 3 = 2) by omega, if_false, show Nat.beq 0 (x + 3) = false from nb_f (by omega), cond_false, Option.map_none]
theorem split_k : Known Tryz.prog 9 split_s := known_ren splitt_k (by
 intro args H v' ups' h
 unfold split_s at h
 split at h
 · rename_i n es
   rw [crun_ite] at h
   cases hc : dec (byl es ∧ n = es.length ∧ es.length ≤ 1000000) with
   | false => rw [hc] at h; cases h
   | true =>
    rw [hc, cond_true] at h
    have run : ∀ t, crun (splitT es (spL es 0 [])) = t → crun (splitt_s [.qs 0 1 0 n] [(0, .seq 5 es)]) = t := fun t ht => by
     show crun (.ite (dec (byl es ∧ n = es.length ∧ es.length ≤ 1000000)) (splitT es (spL es 0 [])) .fail) = _
     rw [crun_ite, hc]; exact ht
    generalize spL es 0 [] = r at *
    unfold splitR at h
    unfold splitT at run
    rw [crun_ite] at h run
    cases he : r.1 == 0 with
    | true =>
     rw [he, cond_true] at h run
     rw [crun_ite] at run
     by_cases hk : r.2.2.length = 0
     · rw [decide_eq_true hk] at run
       exact .inl ⟨_, run _ h, fun x => rfl⟩
     · rw [decide_eq_false hk] at run
       cases h
       exact .inr ⟨_, _, run _ rfl, split_ren⟩
    | false =>
     rw [he, cond_false] at h run
     exact .inl ⟨_, run _ h, fun x => rfl⟩
 · cases h)
end Go.Proofs.YtnlmhpancboddaaGreat
/- Messages: a stream in pieces: the plain side. -/
namespace Go.Proofs.YtnlmhpancboddaaGreat
open Go.Am
set_option maxRecDepth 100000
end Go.Proofs.YtnlmhpancboddaaGreat
/- What is read is small. -/
namespace Go.Proofs.YtnlmhpancboddaaGreat
open Go.Am
set_option maxRecDepth 100000
end Go.Proofs.YtnlmhpancboddaaGreat
/- Messages: Split of what is known by content: what its loop comes to. -/
namespace Go.Proofs.YtnlmhpancboddaaGreat
open Go.Am
set_option maxRecDepth 100000
def vsp (d : Nat) (es : List SV) : List SV := [.psl 5 es, .junk, .ptr 1 0, .ptr (2+d) 0, .ptr (3+d) 0, .ptr (4+d) 0, .junk, .junk, .psl 5 es, .fn (.func 31) [] [.ptr (5+d) 0, .ptr (6+d) 0]] ++ List.replicate 17 .junk
noncomputable def lrp (d : Nat) (st : LS) (es : List SV) : Chunk := .loopr st (vsp d es) rng9.1 rng9.2.1 rng9.2.2
noncomputable def HP0 (es : List SV) (a : Int) : HpL := [(0, lrp 0 .ready es), (1, .cells 25 [.nils]), (2, .cells 22 [.nils]), (3, .cells 28 [.int .i64 0, .int .i64 0]), (4, .cells 3 [.int .i64 a]), (5, .cells 22 [.psl 5 es]), (6, .cells 62 [.ptr 4 0])]
noncomputable def HP1 (es : List SV) (a : Int) (m : Nat) (rs : List SV) : HpL := [(0, lrp 1 .ready es), (1, .cells 25 [.qs 2 25 0 m]), (2, .seq 52 rs), (3, .cells 22 [.nils]), (4, .cells 28 [.int .i64 0, .int .i64 0]), (5, .cells 3 [.int .i64 a]), (6, .cells 22 [.psl 5 es]), (7, .cells 62 [.ptr 5 0])]
def spOp (es : List SV) (a : Int) (rs : List SV) : Prop := byl es ∧ es.length ≤ 1000000 ∧ 0 ≤ a ∧ a ≤ es.length ∧ rs.length + (es.length - a.toNat) ≤ 2000000
noncomputable def sp0p (es : List SV) (r : Int × Nat × List SV) : CTree :=
 .ite (decide (r.2.2.length = 0))
  (.ite (r.1 == 0) (.ret (.tup [.int .i64 1]) []) (.ret (.tup [.int .i64 1]) [(3, some (.cells 28 [.int .i64 r.1, .int .i64 r.2.1])), (0, some (lrp 0 (.done .ret) es))]))
  (.ite (r.1 == 0) (.ret (.tup [.int .i64 1]) [(1, some (.cells 25 [.qs 7 25 0 r.2.2.length])), (4, some (.cells 3 [.int .i64 r.2.1])), (7, some (.seq 52 r.2.2))])
   (.ret (.tup [.int .i64 1]) [(1, some (.cells 25 [.qs 7 25 0 r.2.2.length])), (4, some (.cells 3 [.int .i64 r.2.1])), (3, some (.cells 28 [.int .i64 r.1, .int .i64 r.2.1])), (0, some (lrp 0 (.done .ret) es)), (7, some (.seq 52 r.2.2))]))
noncomputable def sp1p (es : List SV) (r : Int × Nat × List SV) : CTree :=
 .ite (r.1 == 0) (.ret (.tup [.int .i64 1]) [(1, some (.cells 25 [.qs 8 25 0 r.2.2.length])), (2, none), (5, some (.cells 3 [.int .i64 r.2.1])), (8, some (.seq 52 r.2.2))])
  (.ret (.tup [.int .i64 1]) [(1, some (.cells 25 [.qs 8 25 0 r.2.2.length])), (2, none), (5, some (.cells 3 [.int .i64 r.2.1])), (4, some (.cells 28 [.int .i64 r.1, .int .i64 r.2.1])), (0, some (lrp 1 (.done .ret) es)), (8, some (.seq 52 r.2.2))])
def sOfp : HpL → Option (List SV × Int × Option (Nat × List SV))
 | [(0, _), (1, .cells 25 [.nils]), (2, _), (3, _), (4, .cells 3 [.int .i64 a]), (5, .cells 22 [.psl 5 es]), (6, _)] => some (es, a, none)
 | [(0, _), (1, .cells 25 [.qs 2 25 0 m]), (2, .seq 52 rs), (3, _), (4, _), (5, .cells 3 [.int .i64 a]), (6, .cells 22 [.psl 5 es]), (7, _)] => some (es, a, some (m, rs))
 | _ => none
noncomputable def spp_s : CSumm := fun args H => match args with
 | [.yl 0, .ptr b 0, .ptr c 0] => match sOfp H with
  | some (es, a, none) => .ite (dec (b = 5 ∧ c = 6 ∧ H = HP0 es a ∧ spOp es a [])) (sp0p es (spL es a.toNat [])) .fail
  | some (es, a, some (m, rs)) => .ite (dec (b = 6 ∧ c = 7 ∧ H = HP1 es a m rs ∧ m = rs.length ∧ spOp es a rs)) (sp1p es (spL es a.toNat rs)) .fail
  | none => .fail
 | _ => .fail
def sppM : List SV → HpL → Nat
 | _, H => match sOfp H with
  | some (es, a, _) => es.length - a.toNat
  | none => 0
noncomputable def e31p : LEnt := { ins := [0, 1, 2], outs := [], keep := [], size := 58, code := c31, s := spp_s }
/- A round. -/
noncomputable def hdCp (es : List SV) (a : Int) (K : List SV → Int × Int → CTree) : CTree := slI es a es.length fun p => bylC p (K p (hdP p))
noncomputable def rdCp (p : List SV) (sz : Int) (K : Mg × Int → CTree) : CTree := bif inB 18 p.length then slI p 19 sz fun q => bylC q (K (rdP (w64 (dg p 18)) q)) else .fail
noncomputable def badRp (d : Nat) (es : List SV) (e a : Int) (L : SV) (K : CTree) : CTree := bif e != 0 then .ret (.tup [.int .i64 1]) [(3 + d, some (.cells 28 [.int .i64 e, .int .i64 a])), (2 + d, some (.cells 22 [.nils])), (1, some (.cells 25 [L])), (0, some (lrp d (.done .ret) es))] else K
noncomputable def odd0p (es : List SV) : CTree := .ret (.tup [.int .i64 1]) [(1, some (.cells 25 [.qs 7 25 0 1])), (0, some (lrp 0 .ready es)), (7, some (.seq 52 [mgV mg0]))]
noncomputable def spT0p (N : Nat) (es : List SV) (a : Int) (rs : List SV) : CTree :=
 bif Nat.blt (es.length - a.toNat) N then bif dec (6 = 6 ∧ 7 = 7 ∧ HP1 es a 1 rs = HP1 es a 1 rs ∧ 1 = rs.length ∧ spOp es a rs) then
  (fun r : Int × Nat × List SV => bif r.1 == 0 then .ret (.tup [.int .i64 1]) [(1, some (.cells 25 [.qs 7 25 0 r.2.2.length])), (0, some (lrp 0 .ready es)), (4, some (.cells 3 [.int .i64 r.2.1])), (7, some (.seq 52 r.2.2))]
   else .ret (.tup [.int .i64 1]) [(3, some (.cells 28 [.int .i64 r.1, .int .i64 r.2.1])), (1, some (.cells 25 [.qs 7 25 0 r.2.2.length])), (0, some (lrp 0 (.done .ret) es)), (4, some (.cells 3 [.int .i64 r.2.1])), (7, some (.seq 52 r.2.2))]) (spL es a.toNat rs) else .fail else .fail
theorem spp_t0 (N : Nat) (es : List SV) (a : Int) : loopOnce Tryz.prog κsp ιsp (ltab []) true 300 e31p { e31p with s := boundT sppM spp_s N } c31 [.yl 0, .ptr 5 0, .ptr 6 0] (HP0 es a) =
 hdCp es a fun p h => bif (bif h.2 == 0 then h.1 == 0 else false) then .ret (.tup [.int .i64 1]) [] else
  bif h.2 == 0 then rdCp p h.1 fun q => bif q.2 != 0 then badRp 0 es q.2 a .nils (odd0p es) else spT0p N es (w64 (a + h.1)) [mgV q.1]
  else bif h.2 != 0 then badRp 0 es h.2 a .nils (odd0p es) else spT0p N es (w64 (a + h.1)) [mgV mg0] := by kernel_rfl
noncomputable def odd1p (es : List SV) (m : Nat) (rs : List SV) : CTree := gr9 m rs (.ret (.tup [.int .i64 1]) [(1, some (.cells 25 [.qs 8 25 0 (rs.length + 1)])), (2, none), (0, some (lrp 1 .ready es)), (8, some (.seq 52 (rs ++ [mgV mg0])))])
noncomputable def spT1p (N : Nat) (es : List SV) (a : Int) (m : Nat) (rs : List SV) (x : SV) : CTree := gr9 m rs (
 bif Nat.blt (es.length - a.toNat) N then bif dec (6 = 6 ∧ 7 = 7 ∧ HP1 es a (rs.length + 1) (rs ++ [x]) = HP1 es a (rs.length + 1) (rs ++ [x]) ∧ rs.length + 1 = (rs ++ [x]).length ∧ spOp es a (rs ++ [x])) then
  (fun r : Int × Nat × List SV => bif r.1 == 0 then .ret (.tup [.int .i64 1]) [(1, some (.cells 25 [.qs 8 25 0 r.2.2.length])), (2, none), (0, some (lrp 1 .ready es)), (5, some (.cells 3 [.int .i64 r.2.1])), (8, some (.seq 52 r.2.2))]
   else .ret (.tup [.int .i64 1]) [(4, some (.cells 28 [.int .i64 r.1, .int .i64 r.2.1])), (1, some (.cells 25 [.qs 8 25 0 r.2.2.length])), (2, none), (0, some (lrp 1 (.done .ret) es)), (5, some (.cells 3 [.int .i64 r.2.1])), (8, some (.seq 52 r.2.2))]) (spL es a.toNat (rs ++ [x])) else .fail else .fail)
theorem spp_t1 (N m : Nat) (es rs : List SV) (a : Int) : loopOnce Tryz.prog κsp ιsp (ltab []) true 300 e31p { e31p with s := boundT sppM spp_s N } c31 [.yl 0, .ptr 6 0, .ptr 7 0] (HP1 es a m rs) =
 hdCp es a fun p h => bif (bif h.2 == 0 then h.1 == 0 else false) then .ret (.tup [.int .i64 1]) [] else
  bif h.2 == 0 then rdCp p h.1 fun q => bif q.2 != 0 then badRp 1 es q.2 a (.qs 2 25 0 m) (odd1p es m rs) else spT1p N es (w64 (a + h.1)) m rs (mgV q.1)
  else bif h.2 != 0 then badRp 1 es h.2 a (.qs 2 25 0 m) (odd1p es m rs) else spT1p N es (w64 (a + h.1)) m rs (mgV mg0) := by kernel_rfl
theorem hdCp_ok {es : List SV} {a : Int} (hb : byl es) (hl : es.length ≤ 1000000) (h0 : 0 ≤ a) (h1 : a ≤ es.length) (K : List SV → Int × Int → CTree) : hdCp es a K = K (es.drop a.toNat) (hdP (es.drop a.toNat)) := by
 unfold hdCp
 rw [slI_ok (a := a) (b := (es.length : Int)) (i := a.toNat) (j := es.length) (by omega) rfl (by omega) (Nat.le_refl _), sl_end, bylC_ok (byl_dr hb _) (by rw [List.length_drop]; omega)]
theorem rdCp_ok {p : List SV} {sz : Int} (hb : byl p) (hl : p.length ≤ 1000000) (s1 : 19 ≤ sz) (s2 : sz ≤ p.length) (K : Mg × Int → CTree) : rdCp p sz K = K (rdP (dg p 18) (sl p 19 (sz.toNat - 19))) := by
 obtain ⟨r1, r2⟩ := hb.ok 18
 unfold rdCp
 rw [inB_ok (by omega) (by omega), cond_true, slI_ok (a := 19) (b := sz) (i := 19) (j := sz.toNat) rfl (by omega) (by omega) (by omega), bylC_ok (hb.sl _ _) (by rw [sl_len (by omega)]; omega), show w64 (dg p 18) = dg p 18 from w64_id (by omega) (by omega)]
end Go.Proofs.YtnlmhpancboddaaGreat
