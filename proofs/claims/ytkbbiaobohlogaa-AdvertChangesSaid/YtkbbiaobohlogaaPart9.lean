/- What is advertised: keys of maps, ascending; copies; the loop that announces. -/
import Derived.Test.YtkbbiaobohlogaaPart8
import Derived.Test.YtkbbiaobohlogaaMachine8
set_option linter.unusedVariables false
set_option linter.unusedSimpArgs false
namespace Go.Proofs.Ytkbbiaobohlogaa
open Go.Am
set_option maxRecDepth 100000
theorem ky_ks {ks : List SV} (h : ∀ s ∈ ks, KyOk s) : ksOk ks := fun k hk => (h k hk).1
def asOk (bs : List Nat) (cl : Nat) (ks : List SV) : Prop := (∀ b ∈ bs, b < cl) ∧ bs.Nodup ∧ ks.length = bs.length ∧ ks.length ≤ 100000 ∧ ∀ s ∈ ks, KyOk s
theorem asOk_ap {bs : List Nat} {cl : Nat} {ks : List SV} (h : asOk bs cl ks) : apOk bs cl ks ∧ srOk ks ks.length :=
 ⟨⟨h.1, h.2.1, h.2.2.1, ky_ks h.2.2.2.2, h.2.2.2.1⟩, rfl, h.2.2.2.1, h.2.2.2.2⟩
noncomputable def a21_s : CSumm := fun args H => match args, H with
 | [.mp 0], [(0, .ext (.mpo 39 48 bs cl ks _))] => .ite (dec (asOk bs cl ks)) (.ret (.qs 1 21 0 ks.length) [(1, some (.seq 39 (sortK ks)))]) .fail
 | _, _ => .fail
theorem a21_k : Known Try.prog 21 a21_s := (openKnown okas Try.func21 rfl).weak (by
 intro args H v ups h
 unfold a21_s at h
 split at h
 · rename_i bs cl ks vs
   rw [crun_ite] at h
   cases hc : dec _ with
   | false => rw [hc] at h; cases h
   | true =>
    rw [hc, cond_true] at h
    obtain ⟨h1, h2⟩ := asOk_ap (dec_iff.1 hc)
    refine (congrArg crun (a21_t bs cl ks vs)).trans ?_
    rw [crun_gd (dec_iff.2 h1), crun_gd (dec_iff.2 h2)]
    exact h
 · cases h)
noncomputable def a23_s0 : CSumm := fun args H => match args, H with
 | [.mp 0], [(0, .ext (.mpo 39 65 bs cl ks _))] => .ite (dec (asOk bs cl ks)) (.ret (.qs 1 21 0 ks.length) [(1, some (.seq 39 (sortK ks)))]) .fail
 | _, _ => .fail
theorem a23_k0 : Known Try.prog 23 a23_s0 := (openKnown okas Try.func23 rfl).weak (by
 intro args H v ups h
 unfold a23_s0 at h
 split at h
 · rename_i bs cl ks vs
   rw [crun_ite] at h
   cases hc : dec _ with
   | false => rw [hc] at h; cases h
   | true =>
    rw [hc, cond_true] at h
    obtain ⟨h1, h2⟩ := asOk_ap (dec_iff.1 hc)
    refine (congrArg crun (a23_t bs cl ks vs)).trans ?_
    rw [crun_gd (dec_iff.2 h1), crun_gd (dec_iff.2 h2)]
    exact h
 · cases h)
def asU (m : List (SV × SV)) : Prop := m.length ≤ 100000 ∧ ∀ s ∈ m.map (·.1), KyOk s
noncomputable def a23_s : CSumm := fun args H => match args, H with
 | [.mp 0], [(0, .ext (.mpu 39 65 m))] => .ite (dec (asU m)) (.ret (.qs 1 21 0 m.length) [(1, some (.seq 39 (sortK (m.map (·.1)))))]) .fail
 | _, _ => .fail
theorem mpo_len {P : Program} {w : World} {Im : Nat → Prop} {p : Option (Nat × Nat)} {kt et : TypeId} {bs : List Nat} {cl : Nat} {ks vs : List SV} (h : MpoR P w Im p kt et bs cl ks vs) : ks.length = bs.length := by
 obtain ⟨b, N, es, -, -, h3, -, h5, -⟩ := h
 have := h3.len
 rw [← h5]; simpa using this
theorem a23_k : Known Try.prog 23 a23_s := known_pickH a23_k0 (by
 intro args H v ups' h hc ω w Im θ hH
 unfold a23_s at h
 split at h
 · rename_i m
   rw [crun_ite] at h
   cases hd : dec (asU m) with
   | false => rw [hd] at h; cases h
   | true =>
    rw [hd, cond_true] at h
    cases h
    obtain ⟨h1, h2⟩ := dec_iff.1 hd
    obtain ⟨bs, cl, m', hp, hn, hb, hq⟩ := hH.at_ 0 (.ext (.mpu 39 65 m)) rfl
    have hk : (m.map (·.1)).Perm (m'.map (·.1)) := hp.map _
    have hkl : (m'.map (·.1)).length = m.length := by rw [← hk.length_eq]; simp
    refine ⟨[(0, .ext (.mpo 39 65 bs cl (m'.map (·.1)) (m'.map (·.2))))], [(1, some (.seq 39 (sortK (m'.map (·.1)))))], ?_, canon1, rfl, hH.one (c' := .ext (.mpo 39 65 bs cl (m'.map (fun p : SV × SV => p.1)) (m'.map (fun p : SV × SV => p.2)))) hq, fun x c hx => ?_, fun x c' hx => ?_⟩
    · show crun (.ite (dec _) _ _) = _
      rw [crun_ite, dec_iff.2 ⟨hb, hn, mpo_len hq, by rw [hkl]; exact h1, fun s hs => h2 s (hk.mem_iff.2 hs)⟩, cond_true, hkl]
      rfl
    · obtain ⟨rfl, rfl⟩ := hpl1 hx
      exact ⟨_, rfl⟩
    · rw [sortK_perm hk h2] at hx
      simp only [updF] at hx ⊢
      by_cases h0 : x = 1
      · rw [if_pos h0] at hx ⊢; cases hx; exact ⟨_, rfl, fun _ _ _ _ h => h⟩
      · rw [if_neg h0] at hx ⊢
        obtain ⟨rfl, rfl⟩ := hpl1 hx
        refine ⟨_, rfl, ?_⟩
        have : m.Perm ((m'.map (·.1)).zip (m'.map (·.2))) := by rw [show (m'.map (·.1)).zip (m'.map (·.2)) = m' by rw [List.zip_map']; simp]; exact hp
        exact coc_mpo_mpu hn hb this (by simp)
 · cases h)
noncomputable def cln_s : CSumm := fun args H => match args, H with
 | [.agg cs], [] => .ite (dec (cs = (aOf cs).cs ∧ aSz (aOf cs))) (.ret (.agg cs) []) .fail
 | _, _ => .fail
theorem cln_k : Known Try.prog 22 cln_s := (openKnown cOk Try.func22 rfl).weak (by
 intro args H v ups h
 unfold cln_s at h
 split at h
 · rename_i cs
   rw [crun_ite] at h
   cases hc : dec (cs = (aOf cs).cs ∧ aSz (aOf cs)) with
   | false => rw [hc] at h; cases h
   | true =>
    rw [hc, cond_true] at h
    obtain ⟨h1, h2⟩ := dec_iff.1 hc
    generalize aOf cs = r at h1 h2
    subst h1
    rw [← h]
    exact (congrArg crun (clone_t r)).trans (by rw [cp3_ok h2])
 · cases h)
/- Announcing. -/
noncomputable def vAt (ks vs : List SV) (g : SV) : SV := vs.getD (idxH (nE g).cs ks) .junk
def anV (v : SV) : Prop := v = .agg (rE v).cs ∧ aSz (rE v).d
def anOk (ks vs gs es : List SV) (n m : Nat) (l i : Int) : Prop := n = gs.length ∧ l = gs.length ∧ 0 ≤ i ∧ m = es.length ∧ (gs.length ≤ 100000 ∧ es.length + (gs.length - i.toNat) ≤ 100000) ∧ ksOk ks ∧ vs.length = ks.length ∧ (∀ g ∈ gs, g ∈ ks) ∧ ∀ v ∈ vs, anV v
noncomputable def an_s : CSumm := fun args H => match args, H with
 | [.mp 0, .qs 1 21 0 n, .int .i64 l, .int .i64 i, .qs 2 38 0 m], [(0, .ext (.mpo 39 48 bs cl ks vs)), (1, .seq 39 gs), (2, .seq 48 es)] =>
  .ite (dec (anOk ks vs gs es n m l i)) (.ret (.tup [.int .i64 6, .qs 3 38 0 (es ++ (gs.drop i.toNat).map (vAt ks vs)).length]) [(2, none), (3, some (.seq 48 (es ++ (gs.drop i.toNat).map (vAt ks vs))))]) .fail
 | _, _ => .fail
def anM : List SV → HpL → Nat
 | [_, .qs _ _ _ n, _, .int _ i, _], _ => n - i.toNat
 | _, _ => 0
noncomputable def c7c : Code := (loopAt 16 body7).getD .skip
noncomputable def e7c : LEnt := { ins := [7, 70, 71, 72, 5], outs := [5], keep := [4, 8], size := 91, code := c7c, s := an_s }
noncomputable abbrev κ7c := tbl [(22, cln_s)]
theorem ok7c : KOk Try.prog κ7c := tbl_cons cln_k ok0
noncomputable def gr48 (m : Nat) (es : List SV) (K : CTree) : CTree := gd (decide (m = es.length)) (gd (decide (es.length + 1 ≤ 9223372036854775807) && decide ((es.length + 1) * Try.prog.types[48].bytes ≤ 140737488355328)) K)
noncomputable def anT (N n m : Nat) (bs : List Nat) (cl : Nat) (ks vs gs es : List SV) (l i : Int) : CTree :=
 gd (Nat.blt (n - i.toNat) N) (gd (dec (anOk ks vs gs es n m l i)) (.ret (.tup [.int .i64 6, .qs 3 38 0 (es ++ (gs.drop i.toNat).map (vAt ks vs)).length]) [(2, none), (3, some (.seq 48 (es ++ (gs.drop i.toNat).map (vAt ks vs))))]))
def zA : List SV := [.int .i64 0, .nils, .int .u32 0, .bool false, .int .u32 0, .bool false, .int .u32 0, .bool false, .int .u32 0, .nils, .nils, .int .i64 0, .int .u32 0, .int .u32 0, .int .u32 0]
def zL : List SV := [.int .i64 0, .psl 33 [], .int .u32 0, .bool false, .int .u32 0, .bool false, .int .u32 0, .bool false, .int .u32 0, .psl 35 [], .psl 80 [], .int .i64 0, .int .u32 0, .int .u32 0, .int .u32 0]
noncomputable def clG (d : At) (K : CTree) : CTree := gd (dec (d.cs = (aOf d.cs).cs ∧ aSz (aOf d.cs))) K
theorem an_t (N n m : Nat) (bs : List Nat) (cl : Nat) (ks vs gs es : List SV) (l i : Int) : loopOnce Try.prog κ7c (fun _ => false) (ltab []) true 300 e7c { e7c with s := boundT anM an_s N } c7c
  [.mp 0, .qs 1 21 0 n, .int .i64 l, .int .i64 i, .qs 2 38 0 m] [(0, .ext (.mpo 39 48 bs cl ks vs)), (1, .seq 39 gs), (2, .seq 48 es)] =
 bif decide (i < l) then gd (inB i n) (gd (decide (0 + i.toNat < gs.length)) (gd (eqAll (nE (gs.getD (0 + i.toNat) .junk)).cs ks) (bif hasH (nE (gs.getD (0 + i.toNat) .junk)).cs ks then
  clG (rE (vAt ks vs (gs.getD (0 + i.toNat) .junk))).d (gr48 m es (anT N n (es.length + 1) bs cl ks vs gs (es ++ [.agg (rE (vAt ks vs (gs.getD (0 + i.toNat) .junk))).cs]) l (w64 (i + 1))))
  else gd (dec (zA = (aOf zA).cs ∧ aSz (aOf zA))) (gr48 m es (anT N n (es.length + 1) bs cl ks vs gs (es ++ [.agg (zN.cs ++ (zL ++ [.int .u32 0, .bool false]))]) l (w64 (i + 1)))))))
 else .ret (.tup [.int .i64 6, .qs 2 38 0 m]) [] := by kernel_rfl
end Go.Proofs.Ytkbbiaobohlogaa
/- What is advertised: the loop that announces, known; Diff's tree. -/
namespace Go.Proofs.Ytkbbiaobohlogaa
open Go.Am
set_option maxRecDepth 100000
theorem bytes48 : Try.prog.types[48].bytes ≤ 1000 := of_decide_eq_true (by kernel_rfl)
theorem gr48_run {m : Nat} {es : List SV} (h1 : m = es.length) (h2 : es.length ≤ 100000) (K : CTree) : crun (gr48 m es K) = crun K := by
 have hb2 : (es.length + 1) * Try.prog.types[48].bytes ≤ (es.length + 1) * 1000 := Nat.mul_le_mul_left _ bytes48
 unfold gr48
 rw [crun_gd (decide_eq_true h1), crun_gd (by
  rw [Bool.and_eq_true]
  exact ⟨decide_eq_true (by omega), decide_eq_true (by omega)⟩)]
theorem drop_map {β : Type} (f : SV → β) {xs : List SV} {i : Nat} (h : i < xs.length) : (xs.drop i).map f = f (xs.getD i .junk) :: (xs.drop (i + 1)).map f := by
 rw [List.drop_eq_getElem_cons h, List.map_cons]
 have e1 : xs.getD i .junk = xs[i] := by simp [List.getD_eq_getElem?_getD, h]
 rw [e1]
theorem vAt_mem {ks vs : List SV} {g : SV} (hk : ksOk ks) (hg : g ∈ ks) (hl : vs.length = ks.length) : hasH (nE g).cs ks = true ∧ vAt ks vs g ∈ vs := by
 have h1 : hasH (nE g).cs ks = true := by
  rw [hasH_n _ hk]
  refine dec_iff.2 ?_
  have := hk g hg
  unfold kNrm at this
  rw [← this]; exact hg
 exact ⟨h1, getD_mem (by rw [hl]; exact idxH_lt _ _ h1)⟩
theorem an_valid : ValidL Try.prog e7c := loop_valid5 (T := ltab []) (sp := true) (fuel := 300) (c := c7c) (μ := anM) mixTry ltab_nil (show fillC (ltab []) c7c = c7c by kernel_rfl) (by
 intro N args H v' ups' hb h
 refine ⟨κ7c, fun _ => false, ok7c, ?_⟩
 unfold e7c an_s at h
 simp only [] at h
 split at h
 · rename_i n l i m bs cl ks vs gs es
   rw [crun_ite] at h
   cases hc : dec _ with
   | false => rw [hc] at h; cases h
   | true =>
    rw [hc, cond_true] at h
    have hok := dec_iff.1 hc
    obtain ⟨h1, h2, h3, h4, h5, h6, h7, h8, h9⟩ := id hok
    have ht := congrArg crun (an_t N n m bs cl ks vs gs es l i)
    have hN : Nat.blt (n - i.toNat) (N + 1) = true := hb
    rw [Nat.blt_eq] at hN
    by_cases hi : i < l
    · have la : i.toNat < gs.length := by omega
      obtain ⟨g1, g2⟩ := vAt_mem h6 (h8 _ (getD_mem la)) h7
      obtain ⟨v1, v2⟩ := h9 _ g2
      rw [Nat.zero_add, decide_eq_true hi, cond_true, crun_gd (show inB i n = true by unfold inB; simp; omega), crun_gd (decide_eq_true la), crun_gd (eqAll_n _ ks h6), g1, cond_true, show w64 (i + 1) = i + 1 from w64_id (by omega) (by omega), ← v1] at ht
      unfold clG anT at ht
      rw [crun_gd (dec_iff.2 ⟨rfl, v2⟩), gr48_run h4 (by omega), crun_gd (by rw [Nat.blt_eq]; omega), crun_gd (dec_iff.2 ⟨h1, h2, by omega, by simp, ⟨h5.1, by rw [List.length_append, List.length_singleton]; omega⟩, h6, h7, h8, h9⟩), show (i + 1).toNat = i.toNat + 1 by omega] at ht
      rw [drop_map _ la] at h
      rw [List.append_assoc, List.singleton_append] at ht
      exact ⟨_, _, ht.trans h, .same fun _ => rfl⟩
    · rw [decide_eq_false hi, cond_false] at ht
      rw [List.drop_eq_nil_of_le (by omega), List.map_nil, List.append_nil, ← h4] at h
      cases h
      refine ⟨_, _, ht, .ren ⟨2, 3, Nat.le_refl _, by simp [namesS, namesL], fun x c hx => ?_, rfl, fun x => ?_⟩⟩
      · simp only [updF] at hx
        have := HpL_get_some _ _ _ hx
        simp only [List.mem_cons, Prod.mk.injEq, List.not_mem_nil, or_false] at this
        rcases this with ⟨-, rfl⟩ | ⟨-, rfl⟩ | ⟨-, rfl⟩ <;> simp [namesC]
      · match x with
        | 0 => rfl
        | 1 => rfl
        | 2 => rfl
        | 3 => rfl
        | x + 4 => rfl
 · cases h)
abbrev fs7c : List (Option (Nat × Nat)) := [none, none, none, none, some (48, 38)]
noncomputable def e7d : LEnt := { e7c with s := inN fs7c an_s }
theorem an_in : ValidL Try.prog e7d := loop_inN an_valid (fs := fs7c)
noncomputable abbrev T7 : LTab := ltab [("g", e7a), ("d", e7b), ("a", e7d)]
noncomputable abbrev m7 : Code := markC [(4, "g"), (10, "d"), (16, "a")] body7
noncomputable abbrev κ7d := tbl [(19, by_s), (21, a21_s), (23, a23_s)]
theorem ok7d : KOk Try.prog κ7d := tbl_cons by_k (tbl_cons a21_k (tbl_cons a23_k ok0))
noncomputable def df_b : CSumm := bodyCL Try.prog κ7d (fun _ => false) T7 true 300 Try.f7 m7
noncomputable def goneM (mx my : List (SV × SV)) : List (SV × SV) := List.zip [] [] ++ goneL (my.map (·.1)) (leftK [] (List.range mx.length) (mx.map (·.1)))
noncomputable def chgM (mx my : List (SV × SV)) : List (Nat × SV × SV) := (zip3 (List.range my.length) (my.map (·.1)) (my.map (·.2))).filter (keepE (leftE [] (List.range mx.length) (mx.map (·.1)) (mx.map (·.2))))
noncomputable def annM (mx my : List (SV × SV)) : List SV := [] ++ ((sortK ((chgM mx my).map (·.2.1))).drop (0 : Int).toNat).map (vAt ((chgM mx my).map (·.2.1)) ((chgM mx my).map (·.2.2)))
noncomputable def dfT (mx my : List (SV × SV)) : CTree :=
 gd (dec (goOk [] (List.range mx.length) mx.length mx.length mx.length (mx.map (·.1)) (my.map (·.1)) [] 0 [] []))
 (gd (dec (deOk [] (List.range mx.length) mx.length mx.length mx.length (mx.map (·.1)) (mx.map (·.2)) (List.range my.length) (my.map (·.1)) (my.map (·.2))))
 (gd (dec (asOk ((chgM mx my).map (·.1)) my.length ((chgM mx my).map (·.2.1))))
 (gd (dec (anOk ((chgM mx my).map (·.2.1)) ((chgM mx my).map (·.2.2)) (sortK ((chgM mx my).map (·.2.1))) [] ((chgM mx my).map (·.2.1)).length 0 ((chgM mx my).map (·.2.1)).length 0))
 (gd (dec (asU (goneM mx my)))
 (.ret (.tup [.qs 0 21 0 (goneM mx my).length, .qs 1 38 0 (annM mx my).length]) [(0, some (.seq 39 (sortK ((goneM mx my).map (·.1))))), (1, some (.seq 48 (annM mx my)))])))))
theorem df_t (xs ys : List SV) : df_b [.psl 48 xs, .psl 48 ys] [] = gd (dec (xs.length ≤ 100000)) (gd (dec (ys.length ≤ 100000)) (dfT (lastM xs) (lastM ys))) := by kernel_rfl
end Go.Proofs.Ytkbbiaobohlogaa
/- What is advertised: maps by keys, as functions; Diff, known. -/
namespace Go.Proofs.Ytkbbiaobohlogaa
open Go.Am
set_option maxRecDepth 100000
def rtOk (x : SV) : Prop := okE x ∧ aSz (rE x).d
def rsOk (xs : List SV) : Prop := xs.length ≤ 100000 ∧ ∀ x ∈ xs, rtOk x
theorem rtV_ok {x : SV} (h : okE x) : rtV x = x := h.1.symm
theorem putM_mem {k v : SV} {p : SV × SV} : ∀ {m : List (SV × SV)}, p ∈ putM k v m → p = (k, v) ∨ p ∈ m
 | [], h => by simp [putM] at h; exact .inl h
 | (k', v') :: m, h => by
  simp only [putM] at h
  cases hd : dec (k = k') with
  | true =>
   rw [hd, cond_true] at h
   have e := dec_iff.1 hd
   rcases List.mem_cons.1 h with rfl | h
   · exact .inl (by rw [e])
   · exact .inr (.tail _ h)
  | false =>
   rw [hd, cond_false] at h
   rcases List.mem_cons.1 h with rfl | h
   · exact .inr (.head _)
   · rcases putM_mem h with e | h
     · exact .inl e
     · exact .inr (.tail _ h)
theorem putM_len {k v : SV} : ∀ {m : List (SV × SV)}, (putM k v m).length ≤ m.length + 1
 | [] => by simp [putM]
 | (k', v') :: m => by
  simp only [putM]
  cases dec (k = k') with
  | true => simp
  | false => have := putM_len (k := k) (v := v) (m := m); simp only [cond_false, List.length_cons]; omega
theorem putM_keys {k v : SV} : ∀ {m : List (SV × SV)} {z : SV}, z ∈ (putM k v m).map (·.1) ↔ z = k ∨ z ∈ m.map (·.1)
 | [], z => by simp [putM]
 | (k', v') :: m, z => by
  simp only [putM]
  cases hd : dec (k = k') with
  | true =>
   have e := dec_iff.1 hd
   subst e
   simp only [cond_true, List.map_cons, List.mem_cons]
   constructor
   · rintro (h | h)
     · exact .inl h
     · exact .inr (.inr h)
   · rintro (h | h | h)
     · exact .inl h
     · exact .inl h
     · exact .inr h
  | false =>
   simp only [cond_false, List.map_cons, List.mem_cons, putM_keys (m := m)]
   constructor
   · rintro (h | h | h)
     · exact .inr (.inl h)
     · exact .inl h
     · exact .inr (.inr h)
   · rintro (h | h | h)
     · exact .inr (.inl h)
     · exact .inl h
     · exact .inr (.inr h)
theorem putM_nodup {k v : SV} : ∀ {m : List (SV × SV)}, (m.map (·.1)).Nodup → ((putM k v m).map (·.1)).Nodup
 | [], _ => by simp [putM]
 | (k', v') :: m, h => by
  have h2 := List.nodup_cons.1 h
  simp only [putM]
  cases hd : dec (k = k') with
  | true => exact h
  | false =>
   refine List.nodup_cons.2 ⟨fun hm => ?_, putM_nodup h2.2⟩
   rcases putM_keys.1 hm with e | hm
   · rw [dec_iff.2 e.symm] at hd; cases hd
   · exact h2.1 hm
noncomputable def lk (k : SV) (xs : List SV) : Option SV := xs.foldl (fun o x => bif dec (keyV x = k) then some x else o) none
noncomputable def look (k : SV) : List (SV × SV) → Option SV
 | [] => none
 | (k', v) :: m => bif dec (k' = k) then some v else look k m
theorem look_put {k k2 v : SV} : ∀ {m : List (SV × SV)}, look k (putM k2 v m) = bif dec (k2 = k) then some v else look k m
 | [] => rfl
 | (k', v') :: m => by
  simp only [putM]
  cases hd : dec (k2 = k') with
  | true =>
   have e := dec_iff.1 hd
   subst e
   simp only [cond_true, look]
   cases dec (k2 = k) <;> rfl
  | false =>
   simp only [cond_false, look, look_put (m := m)]
   cases h1 : dec (k' = k) with
   | true =>
    have e := dec_iff.1 h1
    subst e
    rw [hd]; rfl
   | false => rfl
theorem lastM_spec : ∀ (xs : List SV) (m : List (SV × SV)), (∀ x ∈ xs, okE x) → (∀ p ∈ m, okE p.2 ∧ p.1 = keyV p.2) → (m.map (·.1)).Nodup →
  ((xs.foldl stepM m).map (·.1)).Nodup ∧ (∀ p ∈ xs.foldl stepM m, (p ∈ m ∨ p.2 ∈ xs) ∧ p.1 = keyV p.2) ∧ (xs.foldl stepM m).length ≤ m.length + xs.length ∧
  ∀ k, look k (xs.foldl stepM m) = xs.foldl (fun o x => bif dec (keyV x = k) then some x else o) (look k m)
 | [], m, _, h2, h3 => ⟨h3, fun p hp => ⟨.inl hp, (h2 p hp).2⟩, by simp, fun k => rfl⟩
 | x :: xs, m, h1, h2, h3 => by
  have hx := rtV_ok (h1 x (.head _))
  have hm : ∀ p ∈ stepM m x, p = (keyV x, x) ∨ p ∈ m := by
   intro p hp
   unfold stepM at hp
   rw [hx] at hp
   exact putM_mem hp
  obtain ⟨a1, a2, a3, a4⟩ := lastM_spec xs (stepM m x) (fun y hy => h1 y (.tail _ hy)) (fun p hp => by
   rcases hm p hp with rfl | h
   · exact ⟨h1 x (.head _), rfl⟩
   · exact h2 p h) (putM_nodup h3)
  refine ⟨a1, fun p hp => ⟨?_, (a2 p hp).2⟩, ?_, fun k => ?_⟩
  · rcases (a2 p hp).1 with h | h
    · rcases hm p h with rfl | h
      · exact .inr (.head _)
      · exact .inl h
    · exact .inr (.tail _ h)
  · have := putM_len (k := keyV x) (v := rtV x) (m := m)
    have b : (stepM m x).length ≤ m.length + 1 := this
    simp only [List.foldl_cons, List.length_cons]
    omega
  · rw [List.foldl_cons, a4 k, List.foldl_cons]
    congr 1
    unfold stepM
    rw [look_put, hx]
structure MapOk (xs : List SV) (m : List (SV × SV)) : Prop where
 nd : (m.map (·.1)).Nodup
 mem : ∀ p ∈ m, p.2 ∈ xs ∧ p.1 = keyV p.2
 len : m.length ≤ xs.length
 look : ∀ k, look k m = lk k xs
theorem lastM_ok {xs : List SV} (h : ∀ x ∈ xs, rtOk x) : MapOk xs (lastM xs) := by
 obtain ⟨a1, a2, a3, a4⟩ := lastM_spec xs [] (fun x hx => (h x hx).1) (fun p hp => by cases hp) List.nodup_nil
 refine ⟨a1, fun p hp => ⟨?_, (a2 p hp).2⟩, (by have := a3; rw [List.length_nil, Nat.zero_add] at this; exact this), fun k => a4 k⟩
 rcases (a2 p hp).1 with h | h
 · cases h
 · exact h
theorem keyV_ok {x : SV} (h : rtOk x) : KyOk (keyV x) := kyOk_key h.1.2.1
theorem look_mem {k v : SV} : ∀ {m : List (SV × SV)}, (m.map (·.1)).Nodup → (look k m = some v ↔ (k, v) ∈ m)
 | [], _ => by simp [look]
 | (k', v') :: m, h => by
  have h2 := List.nodup_cons.1 h
  simp only [look]
  cases hd : dec (k' = k) with
  | true =>
   have e := dec_iff.1 hd
   subst e
   simp only [cond_true, Option.some.injEq, List.mem_cons, Prod.mk.injEq, true_and]
   constructor
   · intro e; exact .inl e.symm
   · rintro (e | h3)
     · exact e.symm
     · exact absurd (List.mem_map.2 ⟨_, h3, rfl⟩) h2.1
  | false =>
   simp only [cond_false, look_mem h2.2, List.mem_cons, Prod.mk.injEq]
   constructor
   · intro h3; exact .inr h3
   · rintro (⟨e, -⟩ | h3)
     · rw [dec_iff.2 e.symm] at hd; cases hd
     · exact h3
theorem leftE_none : ∀ {m : List (SV × SV)} {bs : List Nat}, m.length = bs.length → leftE [] bs (m.map (·.1)) (m.map (·.2)) = m
 | [], [], _ => rfl
 | [], _ :: _, h => by simp at h
 | _ :: _, [], h => by simp at h
 | p :: m, b :: bs, h => by
  have ih := leftE_none (m := m) (bs := bs) (by simpa using h)
  simp only [List.map_cons, leftE, memN, cond_false, ih]
noncomputable def goneK (mx my : List (SV × SV)) : List SV := sortK ((mx.map (·.1)).filter fun k => !dec (k ∈ my.map (·.1)))
noncomputable def chg (mx my : List (SV × SV)) : List (SV × SV) := my.filter fun e => !dec (∃ x, (e.1, x) ∈ mx ∧ sameNA x e.2)
noncomputable def annK (mx my : List (SV × SV)) : List SV := (sortK ((chg mx my).map (·.1))).map (vAt ((chg mx my).map (·.1)) ((chg mx my).map (·.2)))
theorem zip3_snd : ∀ {my : List (SV × SV)} {bs : List Nat}, my.length = bs.length → (zip3 bs (my.map (·.1)) (my.map (·.2))).map (·.2) = my
 | [], [], _ => rfl
 | [], _ :: _, h => by simp at h
 | _ :: _, [], h => by simp at h
 | p :: m, b :: bs, h => by
  have ih := zip3_snd (my := m) (bs := bs) (by simpa using h)
  simp only [List.map_cons, zip3, ih]
theorem chgM_snd (mx my : List (SV × SV)) : (chgM mx my).map (·.2) = chg mx my := by
 unfold chgM chg
 rw [leftE_none (by simp)]
 rw [show (fun e : SV × SV => !dec (∃ x, (e.1, x) ∈ mx ∧ sameNA x e.2)) = fun e => !dec (∃ x, (e.1, x) ∈ mx ∧ sameNA x e.2) from rfl]
 rw [← zip3_snd (my := my) (bs := List.range my.length) (by simp), List.filter_map]
 rw [zip3_snd (by simp)]
 rfl
theorem chgM_1 (mx my : List (SV × SV)) : (chgM mx my).map (·.2.1) = (chg mx my).map (·.1) := by
 rw [← chgM_snd, List.map_map]; rfl
theorem chgM_2 (mx my : List (SV × SV)) : (chgM mx my).map (·.2.2) = (chg mx my).map (·.2) := by
 rw [← chgM_snd, List.map_map]; rfl
theorem goneM_1 (mx my : List (SV × SV)) : (goneM mx my).map (·.1) = (mx.map (·.1)).filter fun k => !dec (k ∈ my.map (·.1)) := by
 unfold goneM goneL
 rw [List.zip_nil_left, List.nil_append, leftK_none (by simp), List.map_map]
 exact List.map_id _
theorem annM_eq (mx my : List (SV × SV)) : annM mx my = annK mx my := by
 unfold annM annK
 rw [List.nil_append, chgM_1, chgM_2]; rfl
end Go.Proofs.Ytkbbiaobohlogaa
/- What is advertised: Diff, known. -/
namespace Go.Proofs.Ytkbbiaobohlogaa
open Go.Am
set_option maxRecDepth 100000
theorem age_ok {bs : List Nat} {cl : Nat} (h : ∀ b ∈ bs, b < cl) : ageOk cl cl bs = true := by
 unfold ageOk
 rw [Bool.and_eq_true, List.all_eq_true]
 exact ⟨fun b hb => by rw [Nat.blt_eq]; exact h b hb, by rw [Nat.ble_eq]; exact Nat.le_refl _⟩
theorem vs_vOk {xs : List SV} {m : List (SV × SV)} (hm : MapOk xs m) (hx : ∀ x ∈ xs, rtOk x) : (vsOk (m.map (·.2))) ∧ (∀ k ∈ m.map (·.1), KyOk k) ∧ ∀ v ∈ m.map (·.2), rtOk v := by
 refine ⟨fun v hv => ?_, fun k hk => ?_, fun v hv => ?_⟩
 · obtain ⟨p, hp, rfl⟩ := List.mem_map.1 hv
   have := hx _ (hm.mem p hp).1
   exact ⟨this.1.1, this.1.2.2⟩
 · obtain ⟨p, hp, rfl⟩ := List.mem_map.1 hk
   show KyOk p.1
   rw [(hm.mem p hp).2]
   exact keyV_ok (hx _ (hm.mem p hp).1)
 · obtain ⟨p, hp, rfl⟩ := List.mem_map.1 hv
   exact hx _ (hm.mem p hp).1
theorem chg_sub (mx my : List (SV × SV)) : (chg mx my).Sublist my := List.filter_sublist
theorem goneK_len (mx my : List (SV × SV)) : (goneK mx my).length = (goneM mx my).length := by
 unfold goneK
 rw [sortK_len, ← goneM_1, List.length_map]
noncomputable def df_s : CSumm := fun args H => match args, H with
 | [.psl 48 xs, .psl 48 ys], [] => .ite (dec (rsOk xs ∧ rsOk ys)) (.ret (.tup [.qs 0 21 0 (goneK (lastM xs) (lastM ys)).length, .qs 1 38 0 (annK (lastM xs) (lastM ys)).length]) [(0, some (.seq 39 (goneK (lastM xs) (lastM ys)))), (1, some (.seq 48 (annK (lastM xs) (lastM ys))))]) .fail
 | _, _ => .fail
theorem df_k0 : Known Try.prog 7 df_b := ⟨⟨Try.f7, Try.func7, noNum_at noNumTry Try.func7, rfl⟩, bodyL_valid ok7d mixTry (ltab_cons go_valid (ltab_cons de_valid (ltab_cons an_in ltab_nil))) Try.func7 (show Try.f7.body = some (fillC T7 m7) by kernel_rfl)⟩
theorem dfT_run {xs ys : List SV} {mx my : List (SV × SV)} (hx : MapOk xs mx) (hy : MapOk ys my) (ox : rsOk xs) (oy : rsOk ys) :
  crun (dfT mx my) = some (.tup [.qs 0 21 0 (goneK mx my).length, .qs 1 38 0 (annK mx my).length], [(0, some (.seq 39 (goneK mx my))), (1, some (.seq 48 (annK mx my)))]) := by
 obtain ⟨x1, x2, x3⟩ := vs_vOk hx ox.2
 obtain ⟨y1, y2, y3⟩ := vs_vOk hy oy.2
 have lx := Nat.le_trans hx.len ox.1
 have ly := Nat.le_trans hy.len oy.1
 have hag : ∀ n : Nat, ageOk n n (List.range n) = true := fun n => age_ok (fun b hb => List.mem_range.1 hb)
 have hsub := chg_sub mx my
 have hck : ∀ s ∈ (chg mx my).map (·.1), KyOk s := fun s hs => y2 s ((hsub.map _).subset hs)
 have hcl : (chg mx my).length ≤ my.length := hsub.length_le
 have hs1 : ((chgM mx my).map (·.1)).Sublist (List.range my.length) := by
  have : (chgM mx my).Sublist (zip3 (List.range my.length) (my.map (·.1)) (my.map (·.2))) := List.filter_sublist
  have h2 := this.map (·.1)
  rwa [(zip3_parts (by simp) (by simp)).1] at h2
 have hl1 : (chgM mx my).length = (chg mx my).length := by rw [← chgM_snd, List.length_map]
 unfold dfT
 rw [crun_gd (dec_iff.2 ⟨hag _, Nat.le_refl _, List.nodup_range, by simp, hx.nd, ky_ks x2, ky_ks y2, (fun k hk => by cases hk), List.nodup_nil, (fun b hb => by cases hb), rfl, rfl, fun k _ hk => by cases hk⟩),
  crun_gd (dec_iff.2 ⟨hag _, Nat.le_refl _, List.nodup_range, by simp, by simp, hx.nd, ky_ks x2, x1, by simp, by simp, hy.nd, ky_ks y2, y1⟩)]
 rw [chgM_1, chgM_2, annM_eq, goneM_1]
 rw [crun_gd (dec_iff.2 ⟨fun b hb => List.mem_range.1 (hs1.subset hb), hs1.nodup List.nodup_range, by simp [hl1], by rw [List.length_map]; omega, hck⟩),
  crun_gd (dec_iff.2 ⟨by rw [sortK_len], by rw [sortK_len], by omega, rfl, ⟨by rw [sortK_len, List.length_map]; omega, by rw [sortK_len, List.length_map]; simp only [List.length_nil]; omega⟩, ky_ks hck, by simp, fun g hg => (List.mergeSort_perm _ _).mem_iff.1 hg, fun v hv => by
   have := y3 v ((hsub.map _).subset hv)
   exact ⟨this.1.1, this.2⟩⟩),
  crun_gd (dec_iff.2 ⟨by
   have : (goneM mx my).length = ((goneM mx my).map (·.1)).length := by simp
   rw [this, goneM_1]
   exact Nat.le_trans (List.length_filter_le _ _) (by simpa using lx), fun s hs => by
   rw [goneM_1] at hs
   exact x2 s (List.mem_filter.1 hs).1⟩)]
 rw [← goneK_len]
 rfl
theorem df_k : Known Try.prog 7 df_s := df_k0.weak (by
 intro args H v ups h
 unfold df_s at h
 split at h
 · rename_i xs ys
   rw [crun_ite] at h
   cases hc : dec _ with
   | false => rw [hc] at h; cases h
   | true =>
    rw [hc, cond_true] at h
    obtain ⟨hx, hy⟩ := dec_iff.1 hc
    refine (congrArg crun (df_t xs ys)).trans ?_
    rw [crun_gd (dec_iff.2 hx.1), crun_gd (dec_iff.2 hy.1), dfT_run (lastM_ok hx.2) (lastM_ok hy.2) hx hy]
    exact h
 · cases h)
end Go.Proofs.Ytkbbiaobohlogaa
/- What is advertised: the place of a route among those in order. -/
namespace Go.Proofs.Ytkbbiaobohlogaa
open Go.Am
set_option maxRecDepth 100000
def cR (a b : SV) : Int := cf (.agg (rE a).n.cs) (.agg (rE b).n.cs)
noncomputable def cmpN (x y : List SV) : Int := cmpK (keyN (nOf x)) (keyN (nOf y))
theorem cmpN_eq (n m : Nk) : cmpN n.cs m.cs = cf (.agg n.cs) (.agg m.cs) := by
 unfold cmpN
 rw [cmpK_eq, cf_eq, ov_cs (keyN_cs (nOf_cs n)), ov_cs (keyN_cs (nOf_cs m)), ov_cs (keyN_cs (nE_agg n)), ov_cs (keyN_cs (nE_agg m))]
noncomputable def posL (r : SV) : List SV → Nat
 | [] => 0
 | a :: l => bif decide (cR a r < 0) then posL r l + 1 else 0
theorem posL_le (r : SV) : ∀ (l : List SV), posL r l ≤ l.length
 | [] => Nat.le_refl _
 | a :: l => by
  have := posL_le r l
  simp only [posL, List.length_cons]
  cases decide (cR a r < 0) <;> simp only [cond_true, cond_false] <;> omega
def wiOk (acc : List SV) (r : Rt) (m : Nat) (i : Int) : Prop := m = acc.length ∧ 0 ≤ i ∧ acc.length ≤ 100000 ∧ okL acc ∧ okN r.n
noncomputable def wi_s : CSumm := fun args H => match args, H with
 | [.int .i64 i, .qs 0 38 0 m, .ptr 1 0], [(0, .seq 48 acc), (1, .cells 48 cs)] => .ite (dec (cs = (rOf cs).cs ∧ wiOk acc (rOf cs) m i)) (.ret (.tup [.int .i64 4, .int .i64 (i.toNat + posL (.agg cs) (acc.drop i.toNat) : Nat), .qs 0 38 0 m, .ptr 1 0]) []) .fail
 | _, _ => .fail
def wiM : List SV → HpL → Nat
 | [.int _ i, .qs _ _ _ m, _], _ => m - i.toNat
 | _, _ => 0
noncomputable def body8 : Code := Try.f8.body.getD .skip
noncomputable def c8a : Code := (loopAt 8 body8).getD .skip
noncomputable def e8a : LEnt := { ins := [6, 3, 5], outs := [6, 3, 5], keep := [0, 2, 4], size := 69, code := c8a, s := wi_s }
noncomputable abbrev κ8a := tbl [(9, cmp_s)]
theorem ok8a : KOk Try.prog κ8a := tbl_cons c9_k ok0
noncomputable def cmG (x y : List SV) (K : CTree) : CTree := gd (dec (x = (nOf x).cs ∧ y = (nOf y).cs ∧ okN (nOf x) ∧ okN (nOf y))) K
noncomputable def wiX (m : Nat) (i : Int) : CTree := .ret (.tup [.int .i64 4, .int .i64 i, .qs 0 38 0 m, .ptr 1 0]) []
theorem wi_t (N m : Nat) (acc : List SV) (r : Rt) (i : Int) : loopOnce Try.prog κ8a (fun _ => false) (ltab []) true 300 e8a { e8a with s := boundT wiM wi_s N } c8a [.int .i64 i, .qs 0 38 0 m, .ptr 1 0] [(0, .seq 48 acc), (1, .cells 48 r.cs)] =
 bif decide (i < m) then gd (inB i m) (gd (decide (0 + i.toNat < acc.length)) (cmG (rE (acc.getD (0 + i.toNat) .junk)).n.cs r.n.cs (bif decide (cmpN (rE (acc.getD (0 + i.toNat) .junk)).n.cs r.n.cs < 0) then
   gd (Nat.blt (m - (w64 (i + 1)).toNat) N) (gd (dec (r.cs = (rOf r.cs).cs ∧ wiOk acc (rOf r.cs) m (w64 (i + 1)))) (wiX m ((w64 (i + 1)).toNat + posL (.agg r.cs) (acc.drop (w64 (i + 1)).toNat) : Nat)))
  else wiX m i)))
 else wiX m i := by kernel_rfl
end Go.Proofs.Ytkbbiaobohlogaa
