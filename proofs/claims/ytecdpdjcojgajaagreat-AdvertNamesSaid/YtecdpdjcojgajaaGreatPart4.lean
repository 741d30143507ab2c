/- Routes are grouped: what is looked for. -/
import Derived.Test.YtecdpdjcojgajaaGreatPart3
set_option linter.unusedVariables false
set_option linter.unusedSimpArgs false
namespace Go.Proofs.YtecdpdjcojgajaaGreat
open Go.Am
set_option maxRecDepth 100000
def rtOf (ds : List SV) : Option (Nl × Int × Bool) := match nlOf (.agg (ds.take 21)), ds.drop 36 with
 | some n, [.int .u32 p, .bool s] => some (n, p, s)
 | _, _ => none
def rtL (n : Nl) (p : Int) (s : Bool) : List SV := cellsN n ++ aX ++ [.int .u32 p, .bool s]
theorem rtOf_v {ds : List SV} {n : Nl} {p : Int} {s : Bool} (h : rtOf ds = some (n, p, s)) (ha : (ds.drop 21).take 15 = aX) : ds = rtL n p s := by
 unfold rtOf at h
 split at h
 · rename_i n' p' s' h1 h2
   cases h
   have h3 := nlOf_v h1
   injection h3 with h3
   have e1 : ds = ds.take 21 ++ ((ds.drop 21).take 15 ++ (ds.drop 21).drop 15) := by rw [List.take_append_drop, List.take_append_drop]
   rw [List.drop_drop] at e1
   rw [e1, ha, show 21 + 15 = 36 from rfl, h2, h3]
   unfold rtL cellsN Nl.v
   rw [List.append_assoc]
 · cases h
theorem ix_t (n : Nl) (p : Int) (s : Bool) (k : Nat) (gs : List SV) : opn8 (tbl []) Tryz.f38 [.qs 0 1 0 1, .fn (.func 39) [] [.ptr 3 0]] [(0, .sqp 70 [.ptr 1 0]), (1, .cells 72 (aX ++ [.qs 2 21 0 k])), (2, .seq 32 gs), (3, .cells 41 (rtL n p s))] = .ret (.int .i64 0) [] := by kernel_rfl
theorem ix_n (n : Nl) (p : Int) (s : Bool) : opn8 (tbl []) Tryz.f38 [.nils, .fn (.func 39) [] [.ptr 0 0]] [(0, .cells 41 (rtL n p s))] = .ret (.int .i64 (-1)) [] := by kernel_rfl
def ix_s : CSumm := fun args H => match args, H with
 | [.qs 0 1 0 1, .fn (.func 39) [] [.ptr 3 0]], [(0, .sqp 70 [.ptr 1 0]), (1, .cells 72 cs), (2, .seq 32 _), (3, .cells 41 ds)] => match rtOf ds, cs.drop 15 with
  | some _, [.qs 2 21 0 _] => .ite (eqLS (cs.take 15) aX && eqLS ((ds.drop 21).take 15) aX) (.ret (.int .i64 0) []) .fail
  | _, _ => .fail
 | [.nils, .fn (.func 39) [] [.ptr 0 0]], [(0, .cells 41 ds)] => match rtOf ds with
  | some _ => .ite (eqLS ((ds.drop 21).take 15) aX) (.ret (.int .i64 (-1)) []) .fail
  | _ => .fail
 | _, _ => .fail
theorem ix_k : Known Tryz.prog 38 ix_s := (openKnown8 ok0 Tryz.func38 rfl).weak (by
 intro args H v ups h
 unfold ix_s at h
 split at h
 · rename_i cs gs ds
   split at h
   · rename_i q k h1 h2
     obtain ⟨n, p, s⟩ := q
     rw [crun_ite, cond_eq_ite] at h
     split at h
     · rename_i hc
       rw [Bool.and_eq_true] at hc
       rw [rtOf_v h1 (eqLS_eq hc.2)]
       have e1 : cs = aX ++ [.qs 2 21 0 k] := by rw [← eqLS_eq hc.1, ← h2, List.take_append_drop]
       rw [e1]
       exact (congrArg crun (ix_t n p s k gs)).trans h
     · cases h
   · cases h
 · rename_i ds
   split at h
   · rename_i q h1
     obtain ⟨n, p, s⟩ := q
     rw [crun_ite, cond_eq_ite] at h
     split at h
     · rename_i hc
       rw [rtOf_v h1 (eqLS_eq hc)]
       exact (congrArg crun (ix_n n p s)).trans h
     · cases h
   · cases h
 · cases h)
noncomputable abbrev κi := openT Tryz.prog (tbl [(38, ix_s)]) 300 8
theorem kiOk : KOk Tryz.prog κi := openT_ok noNumTry mixTry (tbl_cons ix_k ok0) 300 8
noncomputable abbrev ιi : Nat → Bool := fun g => inl (tbl [(38, ix_s)]) g && hasBody Tryz.prog g
def nlv (x : SV) : SV := (nlAt x).v
def keys : Nat → List SV → Int → List SV
 | 0, _, _ => []
 | j + 1, es, i => nlv (el es i) :: keys j es (i + 1)
def grp (b k : Nat) : Chunk := .cells 72 (aX ++ [.qs b 21 0 k])
def s20 : CSumm := fun args H => match args, H with
 | [.qs 0 38 0 m, .int .i64 n, .int .i64 i, .qs 1 1 0 1], [(0, .seq 41 es), (1, .sqp 70 [.ptr 2 0]), (2, .cells 72 cs), (3, .seq 32 gs)] => match cs.drop 15 with
  | [.qs 3 21 0 k] => .ite (inv m n i es && allR es && eqLS (cs.take 15) aX && Nat.beq k gs.length && Nat.ble (gs.length + lft n i) 1000)
   (.ite (decide (i < n)) (.ret (.tup [.int .i64 2, .qs 1 1 0 1]) [(2, some (grp 4 (gs.length + lft n i))), (3, none), (4, some (.seq 32 (gs ++ keys (lft n i) es i)))]) (.ret (.tup [.int .i64 2, .qs 1 1 0 1]) [])) .fail
  | _ => .fail
 | [.qs 0 38 0 m, .int .i64 n, .int .i64 i, .nils], [(0, .seq 41 es)] => .ite (inv m n i es && allR es && decide (i < n)) (.ret (.tup [.int .i64 2, .qs 1 1 0 1]) [(1, some (.sqp 70 [.ptr 2 0])), (2, some (grp 3 (lft n i))), (3, some (.seq 32 (keys (lft n i) es i)))]) .fail
 | _, _ => .fail
def mu20 : List SV → HpL → Nat
 | [_, .int _ n, .int _ i, _], _ => lft n i
 | _, _ => 0
noncomputable def body20 : Code := Tryz.f20.body.getD .skip
noncomputable def c20 : Code := (loopAt 3 body20).getD .skip
noncomputable def e20 : LEnt := { ins := [7, 8, 9, 3], outs := [3], keep := [], size := 46, code := c20, s := s20 }
noncomputable def fitL (k : Nat) : Bool := decide (k ≤ 9223372036854775807) && decide (k * Tryz.prog.types[32].bytes ≤ 140737488355328)
def okG (m : Nat) (n i : Int) (es ys : List SV) (k : Nat) : Bool := inv m n i es && allR es && eqLS aX aX && Nat.beq k ys.length && Nat.ble (ys.length + lft n i) 1000
def nextG (N m : Nat) (n i : Int) (es ys : List SV) (k : Nat) : CTree :=
 bif Nat.blt (lft n i) N then bif okG m n i es ys k then bif decide (i < n) then .ret (.tup [.int .i64 2, .qs 1 1 0 1]) [(2, some (grp 4 (ys.length + lft n i))), (3, none), (4, some (.seq 32 (ys ++ keys (lft n i) es i)))]
  else .ret (.tup [.int .i64 2, .qs 1 1 0 1]) [(2, some (grp 4 k)), (3, none), (4, some (.seq 32 ys))] else .fail else .fail
noncomputable def growG (N m : Nat) (n i : Int) (es ys : List SV) : CTree :=
 bif fitL (ys.length + 1) then nextG N m n (IntKind.i64.wrap (i + 1)) es (ys ++ [nlv (el es i)]) (ys.length + 1) else .fail
theorem r20_t (N m : Nat) (n i : Int) (es gs : List SV) : loopOnce Tryz.prog κi ιi (ltab []) true 300 e20 { e20 with s := boundT mu20 s20 N } c20 [.qs 0 38 0 m, .int .i64 n, .int .i64 i, .qs 1 1 0 1] [(0, .seq 41 es), (1, .sqp 70 [.ptr 2 0]), (2, grp 3 gs.length), (3, .seq 32 gs)] =
 bif decide (i < n) then bif inB i m then bif decide (0 + i.toNat < es.length) then bif eqLS aX aX && eqLS (atAt (el es i)) aX then
  bif decide (gs.length = gs.length) then growG N m n i es gs else .fail
 else .fail else .fail else .fail else .ret (.tup [.int .i64 2, .qs 1 1 0 1]) [] := by kernel_rfl
def okN (m : Nat) (n i : Int) (es ys : List SV) (k : Nat) (at_ : List SV) : Bool := inv m n i es && allR es && eqLS at_ aX && Nat.beq k ys.length && Nat.ble (ys.length + lft n i) 1000
def nextN (N m : Nat) (n i : Int) (es : List SV) (y : SV) (at_ : List SV) : CTree :=
 bif Nat.blt (lft n i) N then bif okN m n i es [y] 1 at_ then bif decide (i < n) then .ret (.tup [.int .i64 2, .qs 1 1 0 1]) [(1, some (.sqp 70 [.ptr 2 0])), (2, some (grp 3 ([y].length + lft n i))), (3, some (.seq 32 ([y] ++ keys (lft n i) es i)))]
  else .ret (.tup [.int .i64 2, .qs 1 1 0 1]) [(1, some (.sqp 70 [.ptr 2 0])), (2, some (.cells 72 (at_ ++ [.qs 3 21 0 1]))), (3, some (.seq 32 [y]))] else .fail else .fail
theorem r20_n (N m : Nat) (n i : Int) (es : List SV) : loopOnce Tryz.prog κi ιi (ltab []) true 300 e20 { e20 with s := boundT mu20 s20 N } c20 [.qs 0 38 0 m, .int .i64 n, .int .i64 i, .nils] [(0, .seq 41 es)] =
 bif decide (i < n) then bif inB i m then bif decide (0 + i.toNat < es.length) then bif eqLS (atAt (el es i)) aX then nextN N m n (IntKind.i64.wrap (i + 1)) es (nlv (el es i)) (atAt (el es i))
 else .fail else .fail else .fail else .ret (.tup [.int .i64 2, .nils]) [] := by kernel_rfl
end Go.Proofs.YtecdpdjcojgajaaGreat
/- Routes are grouped. -/
namespace Go.Proofs.YtecdpdjcojgajaaGreat
open Go.Am
set_option maxRecDepth 100000
theorem lft_succ {n i : Int} (h : i < n) : lft n i = lft n (i + 1) + 1 := by unfold lft; omega
theorem fitL_ok {k : Nat} (h : k ≤ 1000) : fitL k = true := fits32 h
theorem v20 : ValidL Tryz.prog e20 := loop_valid (κ := κi) (ι := ιi) (T := ltab []) (sp := true) (fuel := 300) (c := c20) (μ := mu20) kiOk mixTry ltab_nil (show fillC (ltab []) c20 = c20 by kernel_rfl) (by
 intro N args H r hb hr
 have hr' : crun (s20 args H) = some r := hr
 unfold s20 at hr'
 split at hr'
 · rename_i m n i es cs gs
   split at hr'
   · rename_i k hk
     rw [crun_ite] at hr'
     cases hc : (inv m n i es && allR es && eqLS (cs.take 15) aX && Nat.beq k gs.length && Nat.ble (gs.length + lft n i) 1000) with
     | false => rw [hc] at hr'; cases hr'
     | true =>
      rw [hc, cond_true, crun_ite] at hr'
      simp only [Bool.and_eq_true] at hc
      obtain ⟨⟨⟨⟨hi, ha⟩, h6⟩, h7⟩, h8⟩ := hc
      obtain ⟨h1, h2, h3, h4, h5⟩ := inv_iff.1 hi
      obtain rfl := Nat.eq_of_beq_eq_true h7
      have h8' := Nat.le_of_ble_eq_true h8
      have e1 : cs = aX ++ [.qs 3 21 0 gs.length] := by rw [← eqLS_eq h6, ← hk, List.take_append_drop]
      subst e1
      have hb' : lft n i < N + 1 := by
       have : Nat.blt (lft n i) (N + 1) = true := hb
       rwa [Nat.blt_eq] at this
      rw [← hr']
      refine (congrArg crun (r20_t N m n i es gs)).trans ?_
      by_cases hlt : i < n
      · have hw : IntKind.i64.wrap (i + 1) = i + 1 := w64_id (by omega) (by omega)
        have hin : inB i m = true := by unfold inB; simp; omega
        have hk2 : 0 + i.toNat < es.length := by omega
        have hok := allR_at ha hk2
        unfold okR at hok
        rw [Bool.and_eq_true] at hok
        have hv : inv m n (i + 1) es = true := inv_iff.2 ⟨h1, h2, by omega, by omega, h5⟩
        have hs := lft_succ hlt
        have hx : eqLS aX aX = true := by kernel_rfl
        have hl : (gs ++ [nlv (el es i)]).length = gs.length + 1 := by simp
        have hg : okG m n (i + 1) es (gs ++ [nlv (el es i)]) (gs.length + 1) = true := by
         unfold okG
         rw [hv, ha, hx, hl, Nat.beq_refl]
         simp only [Bool.true_and, Nat.ble_eq]
         omega
        rw [decide_eq_true hlt, hin, decide_eq_true hk2, hok.1, hx, decide_eq_true rfl]
        unfold growG
        rw [fitL_ok (by omega), hw]
        unfold nextG
        rw [lft_lt hb' hlt, hg, hs, hl]
        simp only [cond_true, Bool.and_self, keys, List.append_assoc, List.cons_append, List.nil_append]
        by_cases hl2 : i + 1 < n
        · rw [decide_eq_true hl2, show gs.length + 1 + lft n (i + 1) = gs.length + (lft n (i + 1) + 1) by omega]; rfl
        · have h0 : lft n (i + 1) = 0 := by unfold lft; omega
          rw [decide_eq_false hl2, h0]; rfl
      · rw [decide_eq_false hlt]; rfl
   · cases hr'
 · rename_i m n i es
   rw [crun_ite] at hr'
   cases hc : (inv m n i es && allR es && decide (i < n)) with
   | false => rw [hc] at hr'; cases hr'
   | true =>
    rw [hc, cond_true] at hr'
    simp only [Bool.and_eq_true, decide_eq_true_eq] at hc
    obtain ⟨⟨hi, ha⟩, hlt⟩ := hc
    obtain ⟨h1, h2, h3, h4, h5⟩ := inv_iff.1 hi
    have hb' : lft n i < N + 1 := by
     have : Nat.blt (lft n i) (N + 1) = true := hb
     rwa [Nat.blt_eq] at this
    rw [← hr']
    refine (congrArg crun (r20_n N m n i es)).trans ?_
    have hw : IntKind.i64.wrap (i + 1) = i + 1 := w64_id (by omega) (by omega)
    have hin : inB i m = true := by unfold inB; simp; omega
    have hk2 : 0 + i.toNat < es.length := by omega
    have hok := allR_at ha hk2
    unfold okR at hok
    rw [Bool.and_eq_true] at hok
    have hv : inv m n (i + 1) es = true := inv_iff.2 ⟨h1, h2, by omega, by omega, h5⟩
    have hs := lft_succ hlt
    have hg : okN m n (i + 1) es [nlv (el es i)] 1 (atAt (el es i)) = true := by
     unfold okN
     rw [hv, ha, hok.1]
     simp only [Bool.true_and, List.length_cons, List.length_nil]
     rw [Nat.ble_eq_true_of_le (by unfold lft; omega)]; rfl
    rw [decide_eq_true hlt, hin, decide_eq_true hk2, hok.1, hw]
    unfold nextN
    rw [lft_lt hb' hlt, hg, hs]
    simp only [cond_true, keys, List.cons_append, List.nil_append, List.length_cons, List.length_nil]
    by_cases hl2 : i + 1 < n
    · rw [decide_eq_true hl2, show 0 + 1 + lft n (i + 1) = lft n (i + 1) + 1 by omega]; rfl
    · have h0 : lft n (i + 1) = 0 := by unfold lft; omega
      rw [decide_eq_false hl2, h0, eqLS_eq hok.1]; rfl
 · cases hr')
noncomputable abbrev T20 : LTab := ltab [("s", e20)]
noncomputable def m20 : Code := markC [(3, "s")] body20
theorem fill20 : Tryz.f20.body = some (fillC T20 m20) := by kernel_rfl
noncomputable abbrev grp_b : CSumm := bodyCL Tryz.prog κi ιi T20 true 300 Tryz.f20 m20
theorem grp_b_k : Known Tryz.prog 20 grp_b := ⟨⟨Tryz.f20, Tryz.func20, noNum_at noNumTry Tryz.func20, rfl⟩, bodyL_valid kiOk mixTry (ltab_cons v20 ltab_nil) Tryz.func20 fill20⟩
theorem grp_t (m : Nat) (es : List SV) : grp_b [.qs 0 38 0 m] [(0, .seq 41 es)] = bif inv m m 0 es && allR es && decide ((0 : Int) < m) then .ret (.qs 1 1 0 1) [(1, some (.sqp 70 [.ptr 2 0])), (2, some (grp 3 (lft m 0))), (3, some (.seq 32 (keys (lft m 0) es 0)))] else .fail := by kernel_rfl
def grp_s : CSumm := fun args H => match args, H with
 | [.qs 0 38 0 m], [(0, .seq 41 es)] => .ite (inv m m 0 es && allR es && decide ((0 : Int) < m)) (.ret (.qs 1 1 0 1) [(1, some (.sqp 70 [.ptr 2 0])), (2, some (grp 3 (lft m 0))), (3, some (.seq 32 (keys (lft m 0) es 0)))]) .fail
 | _, _ => .fail
theorem grp_k : Known Tryz.prog 20 grp_s := grp_b_k.weak (by
 intro args H v ups h
 unfold grp_s at h
 split at h
 · rename_i m es
   rw [crun_ite] at h
   refine (congrArg crun (grp_t m es)).trans ?_
   rw [crun_cond]
   exact h
 · cases h)
end Go.Proofs.YtecdpdjcojgajaaGreat
/- The bytes of many routes: the loop. -/
namespace Go.Proofs.YtecdpdjcojgajaaGreat
open Go.Am
set_option maxRecDepth 100000
def allF : List SV → Bool
 | [] => true
 | x :: l => isF (nlAt x) && allF l
theorem allF_at : ∀ {es : List SV} {k : Nat}, allF es = true → k < es.length → isF (nlAt (es.getD k .junk)) = true
 | [], _, _, h => by simp at h
 | x :: l, 0, h, _ => by
  simp only [allF, Bool.and_eq_true] at h
  exact h.1
 | x :: l, k + 1, h, hk => by
  simp only [allF, Bool.and_eq_true] at h
  exact allF_at (es := l) h.2 (by simpa using hk)
def nbx (x : SV) : List SV := nbL (nlAt x).rd (nlAt x).ip
def nbAll : Nat → List SV → Int → List SV
 | 0, _, _ => []
 | j + 1, es, i => nbx (el es i) ++ nbAll j es (i + 1)
noncomputable abbrev κq := openT Tryz.prog (tbl [(37, nb_s), (58, nc_s)]) 300 8
theorem kqOk : KOk Tryz.prog κq := openT_ok noNumTry mixTry (tbl_cons nb_k (tbl_cons nc_k ok0)) 300 8
noncomputable abbrev ιq : Nat → Bool := fun g => inl (tbl [(37, nb_s), (58, nc_s)]) g && hasBody Tryz.prog g
def s96 : CSumm := fun args H => match args, H with
 | [.qs 0 21 0 m, .int .i64 n, .int .i64 i, .nils], [(0, .seq 32 es)] => .ite (inv m n i es && allF es && decide (i < n)) (.ret (.tup [.int .i64 2, .qs 1 1 0 (19 * lft n i)]) [(1, some (.seq 5 (nbAll (lft n i) es i)))]) .fail
 | [.nils, .int .i64 n, .int .i64 i, .nils], [] => .ite (decide (n = 0 ∧ i = 0)) (.ret (.tup [.int .i64 2, .nils]) []) .fail
 | [.qs 0 21 0 m, .int .i64 n, .int .i64 i, .qs 1 1 0 b], [(0, .seq 32 es), (1, .seq 5 bs)] => .ite (inv m n i es && allF es && Nat.beq b bs.length && Nat.ble (bs.length + 19 * lft n i) 65535)
   (.ite (decide (i < n)) (.ret (.tup [.int .i64 2, .qs 2 1 0 (bs.length + 19 * lft n i)]) [(1, none), (2, some (.seq 5 (bs ++ nbAll (lft n i) es i)))]) (.ret (.tup [.int .i64 2, .qs 1 1 0 b]) [])) .fail
 | _, _ => .fail
noncomputable def body96 : Code := Tryz.f96.body.getD .skip
noncomputable def c96 : Code := (loopAt 3 body96).getD .skip
noncomputable def e96 : LEnt := { ins := [9, 10, 11, 4], outs := [4], keep := [], size := 28, code := c96, s := s96 }
def okB (m : Nat) (n i : Int) (es bs : List SV) (b : Nat) : Bool := inv m n i es && allF es && Nat.beq b bs.length && Nat.ble (bs.length + 19 * lft n i) 65535
def nextB (N m : Nat) (n i : Int) (es bs : List SV) (b nw : Nat) (ups : List (Nat × Option Chunk)) : CTree :=
 bif Nat.blt (lft n i) N then bif okB m n i es bs b then bif decide (i < n) then .ret (.tup [.int .i64 2, .qs nw 1 0 (bs.length + 19 * lft n i)]) (ups ++ [(nw, some (.seq 5 (bs ++ nbAll (lft n i) es i)))])
  else .ret (.tup [.int .i64 2, .qs nw 1 0 b]) (ups ++ [(nw, some (.seq 5 bs))]) else .fail else .fail
def fitB (k : Nat) : Bool := decide (k ≤ 9223372036854775807) && decide (k * 1 ≤ 140737488355328)
def growB (N m : Nat) (n i : Int) (es bs : List SV) (b nw : Nat) (ups : List (Nat × Option Chunk)) : CTree :=
 bif decide ((b : Int) > 65535) then .ret (.tup [.int .i64 1, .qs nw 1 0 b]) (ups ++ [(nw, some (.seq 5 bs))]) else nextB N m n (IntKind.i64.wrap (i + 1)) es bs b nw ups
theorem r96_t (N m b : Nat) (n i : Int) (es bs : List SV) : loopOnce Tryz.prog κq ιq (ltab []) true 300 e96 { e96 with s := boundT mu20 s96 N } c96 [.qs 0 21 0 m, .int .i64 n, .int .i64 i, .qs 1 1 0 b] [(0, .seq 32 es), (1, .seq 5 bs)] =
 bif decide (i < n) then bif inB i m then bif decide (0 + i.toNat < es.length) then bif isF (nlAt (el es i)) then
  bif decide (b = bs.length) then bif fitB (bs.length + 19) then growB N m n i es (bs ++ nbx (el es i)) (bs.length + 19) 2 [(1, none)] else .fail else .fail
 else .fail else .fail else .fail else .ret (.tup [.int .i64 2, .qs 1 1 0 b]) [] := by kernel_rfl
theorem r96_n (N m : Nat) (n i : Int) (es : List SV) : loopOnce Tryz.prog κq ιq (ltab []) true 300 e96 { e96 with s := boundT mu20 s96 N } c96 [.qs 0 21 0 m, .int .i64 n, .int .i64 i, .nils] [(0, .seq 32 es)] =
 bif decide (i < n) then bif inB i m then bif decide (0 + i.toNat < es.length) then bif isF (nlAt (el es i)) then
  nextB N m n (IntKind.i64.wrap (i + 1)) es (nbx (el es i)) 19 1 []
 else .fail else .fail else .fail else .ret (.tup [.int .i64 2, .nils]) [] := by kernel_rfl
theorem r96_0 (N : Nat) : loopOnce Tryz.prog κq ιq (ltab []) true 300 e96 { e96 with s := boundT mu20 s96 N } c96 [.nils, .int .i64 0, .int .i64 0, .nils] [] = .ret (.tup [.int .i64 2, .nils]) [] := by kernel_rfl
end Go.Proofs.YtecdpdjcojgajaaGreat
/- The bytes of many routes. -/
namespace Go.Proofs.YtecdpdjcojgajaaGreat
open Go.Am
set_option maxRecDepth 100000
theorem fitB_ok {k : Nat} (h : k ≤ 100000) : fitB k = true := by
 unfold fitB; rw [decide_eq_true (by omega), decide_eq_true (by omega)]; rfl
theorem nbx_len (x : SV) : (nbx x).length = 19 := rfl
theorem v96 : ValidL Tryz.prog e96 := loop_valid (κ := κq) (ι := ιq) (T := ltab []) (sp := true) (fuel := 300) (c := c96) (μ := mu20) kqOk mixTry ltab_nil (show fillC (ltab []) c96 = c96 by kernel_rfl) (by
 intro N args H r hb hr
 have hr' : crun (s96 args H) = some r := hr
 unfold s96 at hr'
 split at hr'
 · rename_i m n i es
   rw [crun_ite] at hr'
   cases hc : (inv m n i es && allF es && decide (i < n)) with
   | false => rw [hc] at hr'; cases hr'
   | true =>
    rw [hc, cond_true] at hr'
    simp only [Bool.and_eq_true, decide_eq_true_eq] at hc
    obtain ⟨⟨hi, ha⟩, hlt⟩ := hc
    obtain ⟨h1, h2, h3, h4, h5⟩ := inv_iff.1 hi
    have hb' : lft n i < N + 1 := by
     have : Nat.blt (lft n i) (N + 1) = true := hb
     rwa [Nat.blt_eq] at this
    rw [← hr']
    refine (congrArg crun (r96_n N m n i es)).trans ?_
    have hw : IntKind.i64.wrap (i + 1) = i + 1 := w64_id (by omega) (by omega)
    have hin : inB i m = true := by unfold inB; simp; omega
    have hk2 : 0 + i.toNat < es.length := by omega
    have hok := allF_at ha hk2
    have hv : inv m n (i + 1) es = true := inv_iff.2 ⟨h1, h2, by omega, by omega, h5⟩
    have hs := lft_succ hlt
    have hg : okB m n (i + 1) es (nbx (el es i)) 19 = true := by
     unfold okB
     rw [hv, ha, nbx_len]
     simp only [Bool.true_and]
     rw [Nat.ble_eq_true_of_le (by unfold lft; omega)]; rfl
    rw [decide_eq_true hlt, hin, decide_eq_true hk2, hok, hw]
    unfold nextB
    rw [lft_lt hb' hlt, hg, hs, nbx_len]
    simp only [cond_true, nbAll]
    by_cases hl2 : i + 1 < n
    · rw [decide_eq_true hl2, show 19 + 19 * lft n (i + 1) = 19 * (lft n (i + 1) + 1) by omega]; rfl
    · have h0 : lft n (i + 1) = 0 := by unfold lft; omega
      rw [decide_eq_false hl2, h0, nbAll, List.append_nil]; rfl
 · rename_i n i
   rw [crun_ite, cond_eq_ite] at hr'
   split at hr'
   · rename_i hc
     obtain ⟨rfl, rfl⟩ := of_decide_eq_true hc
     exact (congrArg crun (r96_0 N)).trans hr'
   · cases hr'
 · rename_i m n i b es bs
   rw [crun_ite] at hr'
   cases hc : (inv m n i es && allF es && Nat.beq b bs.length && Nat.ble (bs.length + 19 * lft n i) 65535) with
   | false => rw [hc] at hr'; cases hr'
   | true =>
    rw [hc, cond_true, crun_ite] at hr'
    simp only [Bool.and_eq_true] at hc
    obtain ⟨⟨⟨hi, ha⟩, h7⟩, h8⟩ := hc
    obtain ⟨h1, h2, h3, h4, h5⟩ := inv_iff.1 hi
    obtain rfl := Nat.eq_of_beq_eq_true h7
    have h8' := Nat.le_of_ble_eq_true h8
    have hb' : lft n i < N + 1 := by
     have : Nat.blt (lft n i) (N + 1) = true := hb
     rwa [Nat.blt_eq] at this
    rw [← hr']
    refine (congrArg crun (r96_t N m bs.length n i es bs)).trans ?_
    by_cases hlt : i < n
    · have hw : IntKind.i64.wrap (i + 1) = i + 1 := w64_id (by omega) (by omega)
      have hin : inB i m = true := by unfold inB; simp; omega
      have hk2 : 0 + i.toNat < es.length := by omega
      have hok := allF_at ha hk2
      have hv : inv m n (i + 1) es = true := inv_iff.2 ⟨h1, h2, by omega, by omega, h5⟩
      have hs := lft_succ hlt
      have hl : (bs ++ nbx (el es i)).length = bs.length + 19 := by rw [List.length_append, nbx_len]
      have hg : okB m n (i + 1) es (bs ++ nbx (el es i)) (bs.length + 19) = true := by
       unfold okB
       rw [hv, ha, hl, Nat.beq_refl]
       simp only [Bool.true_and, Nat.ble_eq]
       omega
      rw [decide_eq_true hlt, hin, decide_eq_true hk2, hok, decide_eq_true rfl]
      unfold growB
      rw [fitB_ok (by omega), decide_eq_false (by omega), hw]
      unfold nextB
      rw [lft_lt hb' hlt, hg, hs, hl]
      simp only [cond_true, cond_false, nbAll, List.append_assoc]
      by_cases hl2 : i + 1 < n
      · rw [decide_eq_true hl2, show bs.length + 19 + 19 * lft n (i + 1) = bs.length + 19 * (lft n (i + 1) + 1) by omega]; rfl
      · have h0 : lft n (i + 1) = 0 := by unfold lft; omega
        rw [decide_eq_false hl2, h0, nbAll, List.append_nil]; rfl
    · rw [decide_eq_false hlt]; rfl
 · cases hr')
noncomputable abbrev T96 : LTab := ltab [("s", e96)]
noncomputable def m96 : Code := markC [(3, "s")] body96
theorem fill96 : Tryz.f96.body = some (fillC T96 m96) := by kernel_rfl
noncomputable abbrev enc_b : CSumm := bodyCL Tryz.prog κq ιq T96 true 300 Tryz.f96 m96
theorem enc_b_k : Known Tryz.prog 96 enc_b := ⟨⟨Tryz.f96, Tryz.func96, noNum_at noNumTry Tryz.func96, rfl⟩, bodyL_valid kqOk mixTry (ltab_cons v96 ltab_nil) Tryz.func96 fill96⟩
theorem enc96_t (m : Nat) (es : List SV) : enc_b [.qs 0 21 0 m] [(0, .seq 32 es)] = bif inv m m 0 es && allF es && decide ((0 : Int) < m) then .ret (.tup [.qs 1 1 0 (19 * lft m 0), .bool true]) [(1, some (.seq 5 (nbAll (lft m 0) es 0)))] else .fail := by kernel_rfl
theorem enc96_0 : enc_b [.nils] [] = .ret (.tup [.nils, .bool true]) [] := by kernel_rfl
def enc96_s : CSumm := fun args H => match args, H with
 | [.qs 0 21 0 m], [(0, .seq 32 es)] => .ite (inv m m 0 es && allF es && decide ((0 : Int) < m)) (.ret (.tup [.qs 1 1 0 (19 * lft m 0), .bool true]) [(1, some (.seq 5 (nbAll (lft m 0) es 0)))]) .fail
 | [.nils], [] => .ret (.tup [.nils, .bool true]) []
 | _, _ => .fail
theorem enc96_k : Known Tryz.prog 96 enc96_s := enc_b_k.weak (by
 intro args H v ups h
 unfold enc96_s at h
 split at h
 · rename_i m es
   rw [crun_ite] at h
   refine (congrArg crun (enc96_t m es)).trans ?_
   rw [crun_cond]
   exact h
 · exact (congrArg crun enc96_0).trans h
 · cases h)
def s95 : CSumm := fun args H => match args, H with
 | [.qs 0 21 0 m, .int .i64 n, .int .i64 i, .int .i64 r], [(0, .seq 32 es)] => .ite (inv m n i es && allF es) (.ret (.tup [.int .i64 4, .int .i64 r]) []) .fail
 | [.nils, .int .i64 n, .int .i64 i, .int .i64 r], [] => .ite (decide (n = 0 ∧ i = 0)) (.ret (.tup [.int .i64 4, .int .i64 r]) []) .fail
 | _, _ => .fail
noncomputable def body95 : Code := Tryz.f95.body.getD .skip
noncomputable def c95 : Code := (loopAt 10 body95).getD .skip
noncomputable def e95 : LEnt := { ins := [32, 33, 34, 6], outs := [6], keep := [28, 29], size := 45, code := c95, s := s95 }
theorem r95_t (N m : Nat) (n i r : Int) (es : List SV) : loopOnce Tryz.prog κq ιq (ltab []) true 300 e95 { e95 with s := boundT mu20 s95 N } c95 [.qs 0 21 0 m, .int .i64 n, .int .i64 i, .int .i64 r] [(0, .seq 32 es)] =
 bif decide (i < n) then bif inB i m then bif decide (0 + i.toNat < es.length) then bif isF (nlAt (el es i)) then
  bif Nat.blt (lft n (IntKind.i64.wrap (i + 1))) N then bif inv m n (IntKind.i64.wrap (i + 1)) es && allF es then .ret (.tup [.int .i64 4, .int .i64 r]) [] else .fail else .fail
 else .fail else .fail else .fail else .ret (.tup [.int .i64 4, .int .i64 r]) [] := by kernel_rfl
theorem r95_0 (N : Nat) (r : Int) : loopOnce Tryz.prog κq ιq (ltab []) true 300 e95 { e95 with s := boundT mu20 s95 N } c95 [.nils, .int .i64 0, .int .i64 0, .int .i64 r] [] = .ret (.tup [.int .i64 4, .int .i64 r]) [] := by kernel_rfl
theorem v95 : ValidL Tryz.prog e95 := loop_valid (κ := κq) (ι := ιq) (T := ltab []) (sp := true) (fuel := 300) (c := c95) (μ := mu20) kqOk mixTry ltab_nil (show fillC (ltab []) c95 = c95 by kernel_rfl) (by
 intro N args H r hb hr
 have hr' : crun (s95 args H) = some r := hr
 unfold s95 at hr'
 split at hr'
 · rename_i m n i q es
   rw [crun_ite] at hr'
   cases hc : (inv m n i es && allF es) with
   | false => rw [hc] at hr'; cases hr'
   | true =>
    rw [hc, cond_true] at hr'
    simp only [Bool.and_eq_true] at hc
    obtain ⟨hi, ha⟩ := hc
    obtain ⟨h1, h2, h3, h4, h5⟩ := inv_iff.1 hi
    have hb' : lft n i < N + 1 := by
     have : Nat.blt (lft n i) (N + 1) = true := hb
     rwa [Nat.blt_eq] at this
    rw [← hr']
    refine (congrArg crun (r95_t N m n i q es)).trans ?_
    by_cases hlt : i < n
    · have hw : IntKind.i64.wrap (i + 1) = i + 1 := w64_id (by omega) (by omega)
      have hin : inB i m = true := by unfold inB; simp; omega
      have hk2 : 0 + i.toNat < es.length := by omega
      have hok := allF_at ha hk2
      have hv : inv m n (i + 1) es = true := inv_iff.2 ⟨h1, h2, by omega, by omega, h5⟩
      rw [decide_eq_true hlt, hin, decide_eq_true hk2, hok, hw, lft_lt hb' hlt, hv, ha]
      rfl
    · rw [decide_eq_false hlt]; rfl
 · rename_i n i q
   rw [crun_ite, cond_eq_ite] at hr'
   split at hr'
   · rename_i hc
     obtain ⟨rfl, rfl⟩ := of_decide_eq_true hc
     exact (congrArg crun (r95_0 N q)).trans hr'
   · cases hr'
 · cases hr')
noncomputable abbrev T95 : LTab := ltab [("s", e95)]
noncomputable def m95 : Code := markC [(10, "s")] body95
theorem fill95 : Tryz.f95.body = some (fillC T95 m95) := by kernel_rfl
noncomputable abbrev chk_b : CSumm := bodyCL Tryz.prog κq ιq T95 true 300 Tryz.f95 m95
theorem chk_b_k : Known Tryz.prog 95 chk_b := ⟨⟨Tryz.f95, Tryz.func95, noNum_at noNumTry Tryz.func95, rfl⟩, bodyL_valid kqOk mixTry (ltab_cons v95 ltab_nil) Tryz.func95 fill95⟩
theorem chk_t (m : Nat) (es : List SV) : chk_b [.agg aX, .qs 0 21 0 (m + 1), .nils] [(0, .seq 32 es)] = bif inv (m + 1) ((m + 1 : Nat) : Int) 0 es && allF es then .ret (.int .i64 0) [] else .fail := by kernel_rfl
def chk_s : CSumm := fun args H => match args, H with
 | [.agg at_, .qs 0 21 0 (m + 1), .nils], [(0, .seq 32 es)] => .ite (eqLS at_ aX && (inv (m + 1) ((m + 1 : Nat) : Int) 0 es && allF es)) (.ret (.int .i64 0) []) .fail
 | _, _ => .fail
theorem chk_k : Known Tryz.prog 95 chk_s := chk_b_k.weak (by
 intro args H v ups h
 unfold chk_s at h
 split at h
 · rename_i at_ m es
   rw [crun_ite] at h
   cases hc : eqLS at_ aX with
   | false => rw [hc] at h; cases h
   | true =>
    rw [hc, Bool.true_and] at h
    rw [eqLS_eq hc]
    refine (congrArg crun (chk_t m es)).trans ?_
    rw [crun_cond]
    exact h
 · cases h)
end Go.Proofs.YtecdpdjcojgajaaGreat
/- Messages that announce too many routes. -/
namespace Go.Proofs.YtecdpdjcojgajaaGreat
open Go.Am
set_option maxRecDepth 100000
noncomputable abbrev κB := tbl [(95, chk_s), (96, enc96_s), (56, wr_s 1), (55, wr_s 2), (134, wr_s 3), (76, wr_s 4), (53, bytes_s), (57, out_s)]
theorem BOk : KOk Tryz.prog κB := tbl_cons chk_k (tbl_cons enc96_k (tbl_cons u8_k (tbl_cons u16_k (tbl_cons u24_k (tbl_cons u32_k (tbl_cons bytes_k (tbl_cons out_k ok0)))))))
def keysN (k : Nat) : List SV := keys k (manyR 300) 0
theorem b213 : callK (closedT Tryz.prog κB 3000 12) 35 [.agg (mX 213)] [(0, .seq 32 (keysN 213))] = some (.tup [.nils, .int .i64 5], []) := by kernel_rfl
def big_s : CSumm := fun args H => match args, H with
 | [.agg m], [(0, .seq 32 l)] => .ite (eqLS m (mX 213) && eqLS l (keysN 213)) (.ret (.tup [.nils, .int .i64 5]) []) .fail
 | _, _ => .fail
theorem big_k : Known Tryz.prog 35 big_s := by
 have hk := closedT_ok noNumTry mixTry BOk 3000 12
 refine ⟨⟨Tryz.f35, Tryz.func35, noNum_at noNumTry Tryz.func35, rfl⟩, ?_⟩
 intro args H v ups hr
 unfold big_s at hr
 split at hr
 · rename_i m l
   rw [crun_ite, cond_eq_ite] at hr
   split at hr
   · rename_i hc
     rw [Bool.and_eq_true] at hc
     obtain rfl := eqLS_eq hc.1
     obtain rfl := eqLS_eq hc.2
     cases hr
     have h := b213
     simp only [callK] at h
     cases hs : closedT Tryz.prog κB 3000 12 35 with
     | none => rw [hs] at h; cases h
     | some s =>
      rw [hs] at h
      exact hk.ok 35 s hs _ _ _ _ h
   · cases hr
 · cases hr
end Go.Proofs.YtecdpdjcojgajaaGreat
