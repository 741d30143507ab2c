/- The abstract machine: copy onto a grown list; bytes that nobody knows. -/
import Derived.Test.YtglklakklmpodaaGreatMachine3
import Derived.Lib.MakeNoZero
import Derived.Maps.RangeRun
import Derived.DeepKeys3
set_option linter.unusedVariables false
set_option linter.unusedSimpArgs false
namespace Go.Am
variable {P : Program} {ω : Nat → Value}
theorem flat_one {us : Nat → Value} {m : Nat} (h : ∀ i, i < m → (us i).cells.size = 1) {i : Nat} (hi : i < m) {c : Value} (hc : (us i).cells[0]? = some c) : (flat us m)[i]? = some c := by
 have hl := flat_len m h
 have hlt : i < (flat us m).length := by omega
 have h1 : (us i).cells[0]? = some (flat us m)[i] := flat_at (us := us) (sz := 1) (m := m) h (at_ := fun k => (us k).cells[0]?) (fun k hk d c hd => by
  have hdl : d < 1 := by
   rw [← h k hk]
   rcases Nat.lt_or_ge d (us k).cells.size with h1 | h1
   · exact h1
   · simp [Array.getElem?_eq_none h1] at hd
  have : d = 0 := by omega
  subst this
  simpa using hd) i (flat us m)[i] (by simp [hlt])
 rw [hc] at h1
 rw [h1]
 simp [hlt]
section
variable {w : World} {Im : Nat → Prop} {θ : Th} {h : HpF}
theorem frozen_nil {b : Nat} (hb : frozenBy Im θ h [] b) : Im b := by
 rcases hb with hb | ⟨y, hy, _⟩
 · exact hb
 · cases hy
theorem overB_len (xs : List SV) : ∀ (j : Nat) (cs : List SV), (overB xs j cs).length = cs.length
 | _, [] => rfl
 | j, c :: cs => by simp [overB, overB_len xs (j + 1) cs]
theorem overB_at (xs : List SV) : ∀ (j : Nat) (cs : List SV) (i : Nat), (overB xs j cs)[i]? = (cs[i]?).map fun c => .int .u8 (bif Nat.blt (j + i) xs.length then asI (xs.getD (j + i) .junk) else asI c)
 | _, [], i => by simp [overB]
 | j, c :: cs, 0 => by simp [overB]
 | j, c :: cs, i + 1 => by
  simp only [overB, List.getElem?_cons_succ]
  rw [overB_at xs (j + 1) cs i, show j + 1 + i = j + (i + 1) by omega]
theorem byteT_spec {e : TypeId} (h : byteT P e = true) : P.underlying e = some (.int .u8) ∧ P.cellsOf e = 1 := by
 unfold byteT at h
 split at h
 · rename_i h1; exact ⟨h1, Nat.eq_of_beq_eq_true h⟩
 · cases h
theorem byte_self {e : TypeId} (hu : P.underlying e = some (.int .u8)) {v : SV} (h : expand P e v = v) : v = .int .u8 (asI v) := by
 have ha : isAggT P e = false := by unfold isAggT; rw [hu]
 simp only [expand, ha, cond_false, expandLeaf, hu] at h
 exact h.symm
theorem run_copySlX {t t' e : TypeId} {y off m : Nat} {s : SV} {nx nx' : Nat} {r : SV} {ups : List (Nat × Option Chunk)} {rs : List Nat} (hr : HRel P ω w Im θ h) (hu : P.underlying t = some (.slice e)) (hm : mrun h (copySlX P e t' y off m s nx) = some (r, ups, nx', rs)) {ud us : Value} (hd : VRel P ω w Im θ (.sl y 1 off m) ud) (hs : VRel P ω w Im θ s us)
  {tys : Array TypeId} {ty : TypeId} {args : Array Value} (h0 : tys[0]? = some t) (ha : args = #[ud, us]) :
  ∃ v w', (Builtin.copy_ tys ty args).run P w = .ok v w' ∧ Ext (fun _ => False) h w Im θ (updF ups h) w' Im θ ∧ VRel P ω w' Im θ r v ∧ HRel P ω w' Im θ (updF ups h) ∧ nx' = nx := by
 unfold copySlX at hm
 have hb0 := bif_fail hm; clear hm; obtain ⟨hk, hm⟩ := hb0
 simp only [Bool.and_eq_true] at hk
 obtain ⟨hue, h1c⟩ := byteT_spec hk.2
 have hpl := hk.1.2
 obtain ⟨xs, ys, rs1, uf, hm1, hel, hsrc⟩ := elemsM_run hr hpl hs hm
 clear hm
 split at hm1
 case h_2 => simp [mrun] at hm1
 have hb0 := get_run hm1; clear hm1; obtain ⟨c, rs', hy, hm, rfl⟩ := hb0
 cases c <;> try (simp [mrun] at hm; done)
 rename_i T cs
 simp only [] at hm
 split at hm
 case h_2 => simp [mrun] at hm
 rename_i part hpart
 split at hm
 case h_2 => simp [mrun] at hm
 rename_i cs' hcs'
 have hb0 := bif_fail hm; clear hm; obtain ⟨hby, hm⟩ := hb0
 have hb0 := mrun_ite_fail' hm; clear hm; obtain ⟨hc, hm⟩ := hb0
 have hxm : xs.length ≤ m := of_decide_eq_true hc
 obtain ⟨rfl, rfl, rfl, -⟩ := mrun_done hm
 obtain ⟨t1, t2⟩ := takeN_spec _ _ _ _ hpart
 obtain ⟨-, s2⟩ := splice_spec _ _ _ _ hcs'
 have hplen : part.length = m := by rw [t2, List.length_take, List.length_drop]; omega
 have holen : (overB xs 0 part).length = m := by rw [overB_len, hplen]
 have hne : P.cellsOf e ≠ 0 := by rw [h1c]; decide
 obtain ⟨i, hi⟩ := info_of_cells hne
 have hisz : i.size = 1 := by simpa [Program.cellsOf, hi] using h1c
 have hsz1 : ∀ j, j < xs.length → (uf j).cells.size = 1 := by intro j hj; rw [← h1c]; exact hel.size j hj
 have hfl := flat_len xs.length hsz1
 rw [Nat.mul_one] at hfl
 have hlen := hsrc.len w
 have hcells := hsrc.cells w rfl
 rw [h1c] at hcells
 have hmin : Nat.min xs.length m = xs.length := Nat.min_eq_left hxm
 have hcl : cs'.length = cs.length := by
  rw [s2, List.length_append, List.length_append, holen, List.length_take, List.length_drop]; omega
 -- what stands where
 have hnew : ∀ j, cs'[j]? = if off ≤ j ∧ j < off + m then (overB xs 0 part)[j - off]? else cs[j]? := by
  intro j
  rw [s2, seg_get _ _ _ (by rw [holen]; exact t1), holen]
 have hpat : ∀ k, k < m → part[k]? = cs[off + k]? := by
  intro k hk
  rw [t2, List.getElem?_take, if_pos hk, List.getElem?_drop]
 have hold : ∀ k, k < m → cs[off + k]? = some (.int .u8 (asI (part.getD k .junk))) := by
  intro k hk
  have h1 : part[k]? = some part[k] := List.getElem?_eq_getElem (by omega)
  obtain ⟨n, hn⟩ := byteL_at hby part[k] (List.getElem_mem _)
  rw [← hpat k hk, List.getD_eq_getElem?_getD, h1, hn]; rfl
 have hval : ∀ k, k < m → (overB xs 0 part)[k]? = some (.int .u8 (bif Nat.blt k xs.length then asI (xs.getD k .junk) else asI (part.getD k .junk))) := by
  intro k hk
  rw [overB_at, List.getElem?_eq_getElem (show k < part.length by omega)]
  simp only [Option.map_some, Nat.zero_add, List.getD_eq_getElem?_getD, List.getElem?_eq_getElem (show k < part.length by omega), Option.getD_some]
 cases hd with
 | slnil =>
  have hx0 : xs = [] := List.eq_nil_of_length_eq_zero (by omega)
  subst hx0
  have hp0 : part = [] := List.eq_nil_of_length_eq_zero hplen
  subst hp0
  have hcc : cs' = cs := by rw [s2]; simp [overB]
  subst hcc
  have hrun : (Builtin.copy_ tys ty args).run P w = .ok (goInt 0) w := by
   subst ha
   simp only [List.length_nil, flat] at hcells hlen
   simp [Builtin.copy_, h0, run_underlying hu, hlen, sizeOf, typeInfo, hi, hisz, hcells, storeCells]
  have : updF [(y, some (Chunk.cells T cs'))] h = h := by funext x; simp only [updF]; by_cases hx : x = y <;> simp [hx, hy]
  refine ⟨_, w, hrun, ?_, .int, ?_, rfl⟩
  · rw [this]; exact Ext.refl _
  · rw [this]; exact hr
 | sl hθ g1 g2 =>
  rename_i b N cap
  rw [Nat.mul_one] at g1
  obtain ⟨b', ucs, fr, h3, h4, h5, hl⟩ := hr.at_ y _ hy
  rw [h3] at hθ
  simp only [Option.some.injEq, Prod.mk.injEq] at hθ
  obtain ⟨rfl, rfl⟩ := hθ
  have hul : ucs.toList.length = cs.length := hl.len.symm
  have hbyte : ∀ (k : Nat) (v : SV), xs[k]? = some v → v = .int .u8 (asI v) ∧ ∃ q, (uf k).cells[0]? = some q ∧ q = .int .u8 (asI v) := by
   intro k v hv
   have h6 := byte_self hue (hel.fit v (List.mem_of_getElem? hv))
   obtain ⟨h7, h8⟩ := hel.rel k v hv
   refine ⟨h6, ?_⟩
   rw [h6] at h7
   generalize uf k = q at h7
   cases h7
   exact ⟨_, rfl, rfl⟩
  have hones : ∀ u ∈ flat uf xs.length, u.oneCell' = true := by
   intro u hu
   obtain ⟨k, hk, huk⟩ := flat_mem _ u hu
   have hrel := (hel.rel k xs[k] (by simp [hk])).1
   exact (plain_cells hpl (hel.fit _ (List.getElem_mem hk)) hrel).1 u huk
  have hroom : off + (flat uf xs.length).length ≤ ucs.toList.length := by rw [hfl, hul]; omega
  have hst := run_storeCells_fine P b' off T fr (flat uf xs.length) 0 ucs w h4 h5 (by simpa using hroom) hones
  simp only [Nat.add_zero] at hst
  generalize hcells' : (ucs.toList.take off ++ flat uf xs.length ++ ucs.toList.drop (off + (flat uf xs.length).length)).toArray = cells at hst
  have hcsz : cells.size = ucs.size := by
   rw [← hcells']
   simp only [List.size_toArray, List.length_append, List.length_take, List.length_drop, Array.length_toList] at hroom ⊢
   omega
  rw [setRow_put h4] at hst
  have hrun : (Builtin.copy_ tys ty args).run P w = .ok (goInt xs.length) (w.putObj b' (.cells cells T fr)) := by
   subst ha
   simp [Builtin.copy_, h0, run_underlying hu, hlen, sizeOf, typeInfo, hi, hisz, hmin, hcells, hst]
  have hget : ∀ j, cells.toList[j]? = if off ≤ j ∧ j < off + xs.length then (flat uf xs.length)[j - off]? else ucs.toList[j]? := by
   intro j
   rw [← hcells']
   simp only []
   rw [seg_get _ _ _ hroom, hfl]
  obtain ⟨hE, hH⟩ := put_block hr hy h3 (.cells cells T fr) (some (.cells T cs')) (fun hI d hd => by
   cases hd
   refine ⟨b', cells, fr, by rw [hcl]; exact h3, World.putObj_heap_same (heap_lt h4), by rw [hcsz]; exact h5, ?_, fun j v u hv hu => ?_⟩
   · rw [hcl]; simp only [Array.length_toList] at hul ⊢; omega
   · rw [hnew] at hv
     rw [hget] at hu
     by_cases hj : off ≤ j ∧ j < off + m
     · rw [if_pos hj] at hv
       have hk : j - off < m := by omega
       rw [hval _ hk] at hv
       cases hv
       by_cases hx : j - off < xs.length
       · rw [if_pos ⟨hj.1, by omega⟩] at hu
         obtain ⟨h6, q, hq, rfl⟩ := hbyte (j - off) xs[j - off] (List.getElem?_eq_getElem hx)
         have := flat_one hsz1 hx hq
         rw [this] at hu
         cases hu
         have hb : Nat.blt (j - off) xs.length = true := by rw [Nat.blt_eq]; exact hx
         rw [hb, cond_true, List.getD_eq_getElem?_getD, List.getElem?_eq_getElem hx]
         exact .int
       · rw [if_neg (by omega)] at hu
         have h7 := hold _ hk
         rw [show off + (j - off) = j by omega] at h7
         have h8 := hl.at_ j _ u h7 hu
         have hb : Nat.blt (j - off) xs.length = false := by
          cases hh : Nat.blt (j - off) xs.length with
          | false => rfl
          | true => rw [Nat.blt_eq] at hh; exact absurd hh hx
         rw [hb, cond_false]
         cases h8
         exact .int
     · rw [if_neg hj] at hv
       rw [if_neg (by omega)] at hu
       exact (hl.at_ j v u hv hu).mono hI (fun _ _ h => h))
  exact ⟨_, _, hrun, hE, .int, hH, rfl⟩
theorem run_copyX {t t' : TypeId} {d s : SV} {nx nx' : Nat} {r : SV} {ups : List (Nat × Option Chunk)} {rs : List Nat} (hr : HRel P ω w Im θ h) (hm : mrun h (copyX P t t' d s nx) = some (r, ups, nx', rs)) {ud us : Value} (hd : VRel P ω w Im θ d ud) (hs : VRel P ω w Im θ s us)
  {tys : Array TypeId} {ty : TypeId} {args : Array Value} (h0 : tys[0]? = some t) (ha : args = #[ud, us]) :
  ∃ v w', (Builtin.copy_ tys ty args).run P w = .ok v w' ∧ Ext (fun _ => False) h w Im θ (updF ups h) w' Im θ ∧ VRel P ω w' Im θ r v ∧ HRel P ω w' Im θ (updF ups h) ∧ nx' = nx := by
 unfold copyX at hm
 split at hm
 case h_3 => simp [mrun] at hm
 case h_2 =>
  rename_i e y sz off m hu
  have hb0 := bif_fail hm; clear hm; obtain ⟨hk, hm⟩ := hb0
  have : sz = 1 := Nat.eq_of_beq_eq_true hk
  subst this
  exact run_copySlX hr hu hm hd hs h0 ha
 rename_i e y sz l m hu
 have hb0 := bif_fail hm; clear hm; obtain ⟨hk, hm⟩ := hb0
 simp only [Bool.and_eq_true] at hk
 have h1c : P.cellsOf e = 1 := Nat.eq_of_beq_eq_true hk.1.2
 have : sz = 1 := Nat.eq_of_beq_eq_true hk.2
 subst this
 have hpl := hk.1.1.2
 obtain ⟨xs, ys, rs1, uf, hm1, hel, hsrc⟩ := elemsM_run hr hpl hs hm
 clear hm
 split at hm1
 case h_2 => simp [mrun] at hm1
 have hb0 := get_run hm1; clear hm1; obtain ⟨c, rs', hy, hm, rfl⟩ := hb0
 cases c <;> try (simp [mrun] at hm; done)
 rename_i e' es
 have hb0 := bif_fail hm; clear hm; obtain ⟨hk2, hm⟩ := hb0
 have : e' = e := Nat.eq_of_beq_eq_true hk2
 subst this
 have hb0 := mrun_ite_fail' hm; clear hm; obtain ⟨hc, hm⟩ := hb0
 simp only [Bool.and_eq_true, decide_eq_true_eq] at hc
 obtain ⟨hxm, hle⟩ := hc
 obtain ⟨rfl, rfl, rfl, -⟩ := mrun_done hm
 have hne : P.cellsOf e' ≠ 0 := by rw [h1c]; decide
 obtain ⟨i, hi⟩ := info_of_cells hne
 have hisz : i.size = 1 := by simpa [Program.cellsOf, hi] using h1c
 have hsz1 : ∀ j, j < xs.length → (uf j).cells.size = 1 := by intro j hj; rw [← h1c]; exact hel.size j hj
 have hfl := flat_len xs.length hsz1
 rw [Nat.mul_one] at hfl
 have hlen := hsrc.len w
 have hcells := hsrc.cells w rfl
 rw [h1c] at hcells
 have hmin : Nat.min xs.length m = xs.length := Nat.min_eq_left hxm
 cases hd with
 | qsnil hm0 =>
  rename_i p
  subst hm0
  have hx0 : xs = [] := List.eq_nil_of_length_eq_zero (by omega)
  subst hx0
  have hrun : (Builtin.copy_ tys ty args).run P w = .ok (goInt 0) w := by
   subst ha
   simp only [List.length_nil, flat] at hcells hlen
   cases p <;> simp [Builtin.copy_, h0, run_underlying hu, hlen, sizeOf, typeInfo, hi, hisz, hcells, storeCells]
  have he : (es.take l ++ [] ++ es.drop (l + 0)) = es := by simp
  refine ⟨_, w, hrun, ?_, .int, ?_, rfl⟩
  · simp only [List.length_nil, he]
    have : updF [(y, some (Chunk.seq e' es))] h = h := by funext x; simp only [updF]; by_cases hx : x = y <;> simp [hx, hy]
    rw [this]
    exact Ext.refl _
  · simp only [List.length_nil, he]
    have : updF [(y, some (Chunk.seq e' es))] h = h := by funext x; simp only [updF]; by_cases hx : x = y <;> simp [hx, hy]
    rw [this]
    exact hr
 | qs hθ g1 g2 =>
  rename_i b N cap
  rw [Nat.mul_one] at g1
  rcases hr.at_ y _ hy with ⟨_, h3⟩ | ⟨b', N', cs, T, fr, uo, h3, h4, h5, ⟨h6, rfl⟩, h7, h8, h9⟩
  · rw [h3] at hθ; cases hθ
  · rw [h3] at hθ
    simp only [Option.some.injEq, Prod.mk.injEq] at hθ
    obtain ⟨rfl, rfl⟩ := hθ
    have hones : ∀ u ∈ flat uf xs.length, u.oneCell' = true := by
     intro u hu
     obtain ⟨k, hk, huk⟩ := flat_mem _ u hu
     have hrel := (hel.rel k xs[k] (by simp [hk])).1
     exact (plain_cells hpl (hel.fit _ (List.getElem_mem hk)) hrel).1 u huk
    have hroom : l + (flat uf xs.length).length ≤ cs.toList.length := by rw [hfl]; simp only [Array.length_toList]; omega
    have hst := run_storeCells_fine P b' l T fr (flat uf xs.length) 0 cs w h4 h5 (by simpa using hroom) hones
    simp only [Nat.add_zero] at hst
    generalize hcells' : (cs.toList.take l ++ flat uf xs.length ++ cs.toList.drop (l + (flat uf xs.length).length)).toArray = cells at hst
    have hcsz : cells.size = cs.size := by
     rw [← hcells']
     simp only [List.size_toArray, List.length_append, List.length_take, List.length_drop, Array.length_toList] at hroom ⊢
     omega
    rw [setRow_put h4] at hst
    have hrun : (Builtin.copy_ tys ty args).run P w = .ok (goInt xs.length) (w.putObj b' (.cells cells T fr)) := by
     subst ha
     simp [Builtin.copy_, h0, run_underlying hu, hlen, sizeOf, typeInfo, hi, hisz, hmin, hcells, hst]
    have hget : ∀ j, cells[j]? = if l ≤ j ∧ j < l + xs.length then (flat uf xs.length)[j - l]? else cs[j]? := by
     intro j
     rw [← hcells']
     simp only [List.getElem?_toArray]
     rw [seg_get _ _ _ hroom, hfl]
     simp
    have hone : ∀ {z : Value} {d : Nat} {c : Value}, z.cells.size = P.cellsOf T → z.cells[d]? = some c → d = 0 := by
     intro z d c hz hd
     rcases Nat.lt_or_ge d z.cells.size with h1 | h1
     · omega
     · simp [Array.getElem?_eq_none h1] at hd
    obtain ⟨hE, hH⟩ := put_block hr hy h3 (.cells cells T fr) (some (.seq T (es.take l ++ xs ++ es.drop (l + xs.length)))) (fun hI d hd => by
     cases hd
     refine .inr ⟨b', N', cells, T, fr, fun j => if l ≤ j ∧ j < l + xs.length then uf (j - l) else uo j, h3, World.putObj_heap_same (heap_lt h4), by rw [hcsz]; exact h5, ⟨by rw [hcsz, h6], rfl⟩, ?_, fun v hv => ?_, fun j v hv => ?_⟩
     · rw [h1c] at h7 ⊢
       simp only [List.length_append, List.length_take, List.length_drop]
       omega
     · rcases List.mem_append.1 hv with hv | hv
       · rcases List.mem_append.1 hv with hv | hv
         · exact h8 v (List.mem_of_mem_take hv)
         · exact hel.fit v hv
       · exact h8 v (List.mem_of_mem_drop hv)
     · have htl : (es.take l).length = l := by simp; omega
       by_cases hj : l ≤ j ∧ j < l + xs.length
       · have hv' : xs[j - l]? = some v := by
           rw [List.append_assoc, List.getElem?_append_right (by omega), htl, List.getElem?_append_left (by omega)] at hv
           exact hv
         obtain ⟨q1, q2⟩ := hel.rel (j - l) v hv'
         simp only [if_pos hj]
         refine ⟨q1.mono (fun b hb => hI b (frozen_nil hb)) (fun _ _ h => h), q2, fun d c hd => ?_⟩
         have := hone q2 hd
         subst this
         rw [h1c, Nat.mul_one, Nat.add_zero, hget, if_pos hj]
         exact flat_one hsz1 (by omega) hd
       · have hv' : es[j]? = some v := by
           rcases Nat.lt_or_ge j l with h1 | h1
           · rw [List.append_assoc, List.getElem?_append_left (by omega), List.getElem?_take, if_pos h1] at hv
             exact hv
           · rw [List.getElem?_append_right (by rw [List.length_append, htl]; omega), List.length_append, htl, List.getElem?_drop] at hv
             rw [← hv]
             congr 1
             omega
         obtain ⟨q1, q2, q3⟩ := h9 j v hv'
         simp only [if_neg hj]
         refine ⟨q1.mono hI (fun _ _ h => h), q2, fun d c hd => ?_⟩
         have hq := q3 d c hd
         have := hone q2 hd
         subst this
         rw [h1c, Nat.mul_one, Nat.add_zero] at hq ⊢
         rw [hget, if_neg hj]
         exact hq)
    exact ⟨_, _, hrun, hE, .int, hH, rfl⟩
theorem run_rawX {ts : List TypeId} {args : List SV} {nx nx' : Nat} {r : SV} {ups : List (Nat × Option Chunk)} {rs : List Nat} (hr : HRel P ω w Im θ h) (hfr : ∀ x, nx ≤ x → x < nx' → θ x = none ∧ h x = none) (hm : mrun h (rawX P ts args nx) = some (r, ups, nx', rs)) {us : Array Value} (hl : LRel P ω w Im θ args us.toList) (ps : Array TypeId) :
  ∃ v w' θ' Im', (Extern.BytealgMakeNoZero.makeNoZero ps ts.toArray us).run P w = .ok v w' ∧ Ext (fun x => nx ≤ x ∧ x < nx') h w Im θ (updF ups h) w' Im' θ' ∧ VRel P ω w' Im' θ' r v ∧ HRel P ω w' Im' θ' (updF ups h) := by
 unfold rawX at hm
 split at hm
 case h_2 => simp [mrun] at hm
 rename_i t n
 split at hm
 case h_2 => simp [mrun] at hm
 rename_i e hu
 have hb0 := bif_fail hm; clear hm; obtain ⟨hk, hm⟩ := hb0
 have h1c : P.cellsOf e = 1 := Nat.eq_of_beq_eq_true hk
 have hb0 := mrun_ite_fail' hm; clear hm; obtain ⟨hc, hm⟩ := hb0
 simp only [Bool.and_eq_true, decide_eq_true_eq] at hc
 obtain ⟨c1, c2⟩ := hc
 obtain ⟨rfl, rfl, rfl, -⟩ := mrun_done hm
 obtain ⟨k, rfl⟩ : ∃ k : Nat, n = k := ⟨n.toNat, by omega⟩
 have hlen := hl.len
 match hus : us.toList, hlen with
 | [a], _ =>
  rw [hus] at hl
  have eus : us = #[a] := Array.ext' hus
  subst eus
  have ha := hl.at_ 0 _ a rfl rfl
  cases ha
  obtain ⟨cs, q1, q2, -⟩ := Lib.run_makeNoZero (P := P) w ps t _ hu k (by omega)
  obtain ⟨f1, f2⟩ := hfr nx (Nat.le_refl _) (Nat.lt_succ_self _)
  obtain ⟨θ', Im', g1, g2, g3⟩ := new_step hr f1 f2 (w' := w.drew.drew.alloc (.cells cs e)) (N := cs.size) (by simp) (fun d hd => alloc_old w.drew.drew _ d hd) rfl rfl rfl (.seq e []) (fun θ' a => by
   refine .inr ⟨_, _, cs, e, (0, 0), fun _ => undef, a, alloc_new w.drew.drew _, fun i _ hh => by omega, ⟨rfl, rfl⟩, by simp, (fun v hv => by cases hv), (fun i v hv => by simp at hv)⟩)
  refine ⟨_, _, θ', Im', q1, g1, ?_, g2⟩
  have := VRel'.qs (P := P) (ω := ω) (w := w.drew.drew.alloc (.cells cs e)) (Im := Im') (θ := θ') (x := nx) (sz := 1) (l := 0) (n := k) (cap := cs.size) g3 (by simp) q2
  simpa using this
theorem find_raw {fn : Func} (hn : fn.name = "internal/bytealg.MakeNoZero") (ho : fn.origin = "") : Extern.find fn = some (Extern.BytealgMakeNoZero.makeNoZero fn.params fn.resultTypes) ∧ Extern.findNext fn = none := by
 have a1 : Extern.allGenericRows.lookup "internal/bytealg.MakeNoZero" = none := by kernel_rfl
 have a2 : Extern.allTypedRows.lookup "internal/bytealg.MakeNoZero" = some Extern.BytealgMakeNoZero.makeNoZero := by kernel_rfl
 have a4 : Extern.allNextRows.lookup "internal/bytealg.MakeNoZero" = none := by kernel_rfl
 have a5 : Extern.allNextRows.lookup "" = none := by kernel_rfl
 exact ⟨by simp [Extern.find, hn, a1, a2], by simp [Extern.findNext, hn, ho, a4, a5]⟩
theorem find_count {fn : Func} (hn : fn.name = "internal/bytealg.CountString") (ho : fn.origin = "") : Extern.find fn = some Extern.BytealgCount.count ∧ Extern.findNext fn = none := by
 have a1 : Extern.allGenericRows.lookup "internal/bytealg.CountString" = none := by kernel_rfl
 have a2 : Extern.allTypedRows.lookup "internal/bytealg.CountString" = none := by kernel_rfl
 have a3 : Extern.allRows.lookup "internal/bytealg.CountString" = some Extern.BytealgCount.count := by kernel_rfl
 have a4 : Extern.allNextRows.lookup "internal/bytealg.CountString" = none := by kernel_rfl
 have a5 : Extern.allNextRows.lookup "" = none := by kernel_rfl
 exact ⟨by simp [Extern.find, hn, a1, a2, a3], by simp [Extern.findNext, hn, ho, a4, a5]⟩
theorem run_externX {g : Nat} {args : List SV} {nx nx' : Nat} {r : SV} {ups : List (Nat × Option Chunk)} {rs : List Nat} (hr : HRel P ω w Im θ h) (hfr : ∀ x, nx ≤ x → x < nx' → θ x = none ∧ h x = none) (hm : mrun h (externX P g args nx) = some (r, ups, nx', rs)) {us : Array Value} (hl : LRel P ω w Im θ args us.toList) :
  ∃ v w' θ' Im', (callFunc g us).run P w = .ok (.value v) w' ∧ Ext (fun x => nx ≤ x ∧ x < nx') h w Im θ (updF ups h) w' Im' θ' ∧ VRel P ω w' Im' θ' r v ∧ HRel P ω w' Im' θ' (updF ups h) := by
 unfold externX at hm
 split at hm
 case h_2 => simp [mrun] at hm
 rename_i fn hfn
 have hb0 := bif_fail hm; clear hm; obtain ⟨hk, hm⟩ := hb0
 simp only [Bool.and_eq_true] at hk
 have ho : fn.origin = "" := by simpa using hk.2
 cases h1 : fn.name == "internal/bytealg.IndexByteString" with
 | true =>
  rw [h1] at hm
  simp only [cond_true] at hm
  have hname : fn.name = "internal/bytealg.IndexByteString" := by simpa using h1
  obtain ⟨q1, q2⟩ := find_index hname ho
  split at hm
  case h_2 => simp [mrun] at hm
  rename_i l c
  obtain ⟨rfl, rfl, rfl, -⟩ := mrun_done hm
  have hlen := hl.len
  match hus : us.toList, hlen with
  | [a, b], _ =>
   rw [hus] at hl
   have e : us = #[a, b] := Array.ext' hus
   have ha := hl.at_ 0 _ a rfl rfl
   have hb := hl.at_ 1 _ b rfl rfl
   cases ha with
   | str hs =>
    cases hb
    subst e
    refine ⟨_, w, θ, Im, ?_, Ext.refl _, .int, hr⟩
    rw [← hs]
    rw [run_callFunc_standIn hfn (by rw [hname]; rfl) hk.1 q2 q1, Lib.run_indexByteString]
    rfl
 | false =>
  rw [h1] at hm
  simp only [cond_false] at hm
  cases h2 : fn.name == "internal/abi.NoEscape" with
  | false =>
   rw [h2] at hm
   simp only [cond_false] at hm
   cases h4 : fn.name == "internal/bytealg.CountString" with
   | true =>
    rw [h4] at hm
    simp only [cond_true] at hm
    have hname : fn.name = "internal/bytealg.CountString" := by simpa using h4
    obtain ⟨q1, q2⟩ := find_count hname ho
    split at hm
    case h_2 => simp [mrun] at hm
    rename_i l c
    obtain ⟨rfl, rfl, rfl, -⟩ := mrun_done hm
    have hlen := hl.len
    match hus : us.toList, hlen with
    | [a, b], _ =>
     rw [hus] at hl
     have e : us = #[a, b] := Array.ext' hus
     have ha := hl.at_ 0 _ a rfl rfl
     have hb := hl.at_ 1 _ b rfl rfl
     cases ha with
     | str hs =>
      cases hb
      subst e
      refine ⟨_, w, θ, Im, ?_, Ext.refl _, .int, hr⟩
      rw [← hs]
      rw [run_callFunc_standIn hfn (by rw [hname]; rfl) hk.1 q2 q1, Lib.run_countString]
      rfl
   | false =>
   rw [h4] at hm
   simp only [cond_false] at hm
   have hb0 := bif_fail hm; clear hm; obtain ⟨h3, hm⟩ := hb0
   have hname : fn.name = "internal/bytealg.MakeNoZero" := by simpa using h3
   obtain ⟨q1, q2⟩ := find_raw hname ho
   obtain ⟨v, w', θ', Im', g1, g2, g3, g4⟩ := run_rawX hr hfr hm hl fn.params
   refine ⟨v, w', θ', Im', ?_, g2, g3, g4⟩
   have e : fn.resultTypes.toList.toArray = fn.resultTypes := by simp
   rw [e] at g1
   rw [run_callFunc_standIn hfn (by rw [hname]; rfl) hk.1 q2 q1, g1]
   rfl
  | true =>
  rw [h2] at hm
  simp only [cond_true] at hm
  have hname : fn.name = "internal/abi.NoEscape" := by simpa using h2
  obtain ⟨q1, q2⟩ := find_noEscape hname ho
  split at hm
  case h_2 => simp [mrun] at hm
  rename_i x
  obtain ⟨rfl, rfl, rfl, -⟩ := mrun_done hm
  have hlen := hl.len
  match hus : us.toList, hlen with
  | [a], _ =>
   rw [hus] at hl
   have e : us = #[a] := Array.ext' hus
   subst e
   exact ⟨a, w, θ, Im, by rw [run_callFunc_standIn hfn (by rw [hname]; rfl) hk.1 q2 q1, Lib.run_noEscape]; rfl, Ext.refl _, hl.at_ 0 _ a rfl rfl, hr⟩
end
end Go.Am
/- The abstract machine: maps by rows, and what goes over them. -/
namespace Go.Am
variable {P : Program} {ω : Nat → Value}
section
variable {w : World} {Im : Nat → Prop} {θ : Th} {h : HpF}
theorem plainEq_un {d : Nat} {t : TypeId} (h : plainEq P d t = true) : ∃ k, P.underlying t = some k ∧ (isAggT P t = false → P.cellsOf t = 1) := by
 cases d with
 | zero => simp [plainEq] at h
 | succ d =>
  unfold plainEq at h
  cases hu : P.underlying t with
  | none => simp [hu] at h
  | some k =>
   refine ⟨k, rfl, fun hf => ?_⟩
   unfold isAggT at hf
   rw [hu] at h hf
   cases k <;> simp at h hf <;> first | exact h | skip
theorem run_checkKey_row (em : Bool) : ∀ (d D : Nat) (t : TypeId), d ≤ D → plainEq P d t = true → ∀ (as : List SV) (u : Value), P.cellsOf t ≤ as.length → TRel P ω w Im θ t as u → (Instr.checkKey em D t u).run P w = .ok () w
 | 0, _, t, _, h, _, _, _, _ => by simp [plainEq] at h
 | d + 1, 0, t, hd, _, _, _, _, _ => by omega
 | d + 1, D + 1, t, hd, h, as, u, hlen, hA => by
  unfold plainEq at h
  cases hu : P.underlying t with
  | none => simp [hu] at h
  | some k =>
   cases k <;> simp only [hu] at h <;> first
    | (cases h; done)
    | (rw [Instr.checkKey]; simp only [Sem.run_bind, run_underlying hu, Result.andThen_ok]; cases u <;> simp; done)
    | skip
   · rename_i n e
     simp only [Bool.and_eq_true] at h
     have hne : n * P.cellsOf e = P.cellsOf t := Nat.eq_of_beq_eq_true h.2
     have hagg : isAggT P t = true := by simp [isAggT, hu]
     obtain ⟨k, hk, hone⟩ := plainEq_un h.1
     obtain ⟨i, hi⟩ := Go.info_of_underlying hk
     rcases hA with ⟨_, xs, rfl, hA⟩ | ⟨hc, _⟩
     · rw [Instr.checkKey]
       simp only [Sem.run_bind, run_underlying hu, Result.andThen_ok]
       simp only [Std.Legacy.Range.forIn_eq_forIn_range', Std.Legacy.Range.size, Nat.sub_zero, Nat.add_one_sub_one, Nat.div_one]
       have each : ∀ j ∈ List.range' 0 n, j < n := fun j hj => by simpa using hj
       generalize List.range' 0 n = is at each
       induction is with
       | nil => simp
       | cons j is ih =>
        have hj := each j (by simp)
        have hm : (j + 1) * P.cellsOf e ≤ n * P.cellsOf e := Nat.mul_le_mul_right _ hj
        have hm2 : (j + 1) * P.cellsOf e = j * P.cellsOf e + P.cellsOf e := Nat.succ_mul _ _
        obtain ⟨u, p1, p2⟩ := part_rel hk hA (off := j * P.cellsOf e) (by omega) hone
        have p3 := run_checkKey_row em d D e (by omega) h.1 _ u (by simp; omega) p2
        simp only [List.forIn_cons, Sem.run_bind, run_sizeOf w hi, Result.andThen_ok, p1, p3, Sem.run_pure]
        exact ih (fun y hy => each y (by simp [hy]))
     · rw [hagg] at hc; cases hc
   · rename_i fs
     simp only [Bool.and_eq_true] at h
     have hagg : isAggT P t = true := by simp [isAggT, hu]
     rcases hA with ⟨_, xs, rfl, hA⟩ | ⟨hc, _⟩
     · rw [Instr.checkKey]
       simp only [Sem.run_bind, run_underlying hu, Result.andThen_ok]
       rw [← Array.forIn_toList]
       have hf := h.2
       clear h hu
       generalize fs.toList = L at hf
       generalize (0 : Nat) = o at hf
       induction L generalizing o with
       | nil => simp
       | cons f L ih =>
        simp only [fieldsEq, Bool.and_eq_true] at hf
        obtain ⟨⟨⟨h1, h2⟩, h3⟩, h4⟩ := hf
        have ho : f.offset = o := Nat.eq_of_beq_eq_true h2
        have hn := fieldsEq_len (fun t ht => leaves_len d t ht) L _ _ h4
        have hne : f.name ≠ "_" := by simpa using h1
        obtain ⟨k, hk, hone⟩ := plainEq_un h3
        obtain ⟨u, p1, p2⟩ := part_rel hk hA (off := o) (by omega) hone
        have p3 := run_checkKey_row em d D f.type (by omega) h3 _ u (by simp; omega) p2
        simp only [List.forIn_cons, Sem.run_bind, hne, ne_eq, not_false_eq_true, if_true, Result.andThen_ok, ho, p1, p3, Sem.run_pure]
        exact ih _ h4
     · rw [hagg] at hc; cases hc
theorem rowK_is {kt : TypeId} (hT : rowT P kt = true) {x : SV} {cs : List SV} (hx : rowK P kt x = some cs) {u : Value} (hv : VRel P ω w Im θ x u) :
  x = .agg cs ∧ fitsAll P (leaves P 40 kt) cs = true ∧ TRel P ω w Im θ kt cs u := by
 unfold rowT at hT
 simp only [Bool.and_eq_true] at hT
 unfold rowK at hx
 split at hx
 · rename_i cs'
   cases hf : fitsAll P (leaves P 40 kt) cs' with
   | false => simp [hf] at hx
   | true =>
    simp only [hf, cond_true, Option.some.injEq] at hx
    subst hx
    refine ⟨rfl, hf, ?_⟩
    cases hv with
    | agg h1 h2 =>
     exact .inl ⟨hT.2, _, rfl, ⟨by simpa using h1, fun i v u hv hu => h2 i v u hv (by simpa using hu)⟩⟩
 · cases hx
theorem row_wide {kt : TypeId} (hT : rowT P kt = true) : (match P.underlying kt with | some (.array _ _) | some (.struct _) => true | _ => false) = true := by
 unfold rowT isAggT at hT
 simp only [Bool.and_eq_true] at hT
 have h2 := hT.2
 split at h2 <;> simp_all
theorem row_equal {kt : TypeId} (hT : rowT P kt = true) {as bs : List SV} {u v : Value} {r : Bool} (ha : fitsAll P (leaves P 40 kt) as = true) (hb : fitsAll P (leaves P 40 kt) bs = true)
  (hA : TRel P ω w Im θ kt as u) (hB : TRel P ω w Im θ kt bs v) (he : eqLeaves as bs = some r) : (Op.equal kt u v).run P w = .ok r w := by
 unfold rowT at hT
 simp only [Bool.and_eq_true] at hT
 exact run_equalIn_plain 40 10000 kt (by omega) hT.1 as bs u v r ha hb hA hB he
theorem row_check {kt : TypeId} (hT : rowT P kt = true) {as : List SV} {u : Value} (ha : fitsAll P (leaves P 40 kt) as = true) (hA : TRel P ω w Im θ kt as u) (em : Bool) : (Instr.checkKey em 10000 kt u).run P w = .ok () w := by
 unfold rowT at hT
 simp only [Bool.and_eq_true] at hT
 refine run_checkKey_row em 40 10000 kt (by omega) hT.1 as u ?_ hA
 rw [fitsAll_len ha, leaves_len 40 kt hT.1]
 exact Nat.le_refl _
theorem findR_run {kt : TypeId} {key : List SV} {hit : Nat → OpM} {miss : OpM} {res : SV × List (Nat × Option Chunk) × Nat × List Nat} : ∀ (xs : List SV) (i : Nat), mrun h (findR P kt key hit miss xs i) = some res →
  (∃ j x bs, xs[j]? = some x ∧ rowK P kt x = some bs ∧ eqLeaves key bs = some true ∧ (∀ j' x', j' < j → xs[j']? = some x' → ∃ bs', rowK P kt x' = some bs' ∧ eqLeaves key bs' = some false) ∧ mrun h (hit (i + j)) = some res) ∨
  ((∀ x ∈ xs, ∃ bs, rowK P kt x = some bs ∧ eqLeaves key bs = some false) ∧ mrun h miss = some res)
 | [], i, hm => .inr ⟨(fun x hx => by cases hx), hm⟩
 | x :: xs, i, hm => by
  simp only [findR] at hm
  cases hk : rowK P kt x with
  | none => simp [hk, mrun] at hm
  | some bs =>
   simp only [hk] at hm
   cases he : eqLeaves key bs with
   | none => simp [he, mrun] at hm
   | some b =>
    simp only [he, mrun] at hm
    cases b with
    | true => exact .inl ⟨0, x, bs, rfl, hk, he, fun j' x' hj => by omega, by simpa using hm⟩
    | false =>
     simp only [Bool.false_eq_true, if_false] at hm
     rcases findR_run xs (i + 1) hm with ⟨j, y, cs, h1, h2, h3, h4, h5⟩ | ⟨h1, h2⟩
     · refine .inl ⟨j + 1, y, cs, by simpa using h1, h2, h3, fun j' x' hj hx => ?_, by rw [show i + (j + 1) = i + 1 + j by omega]; exact h5⟩
       cases j' with
       | zero => simp at hx; subst hx; exact ⟨bs, hk, he⟩
       | succ j' => exact h4 j' x' (by omega) (by simpa using hx)
     · refine .inr ⟨fun y hy => ?_, h2⟩
       rcases List.mem_cons.1 hy with rfl | hy
       · exact ⟨bs, hk, he⟩
       · exact h1 y hy
theorem asking_hit {kt : TypeId} (hT : rowT P kt = true) {cs : List SV} {u : Value} (hc : fitsAll P (leaves P 40 kt) cs = true) (hu : TRel P ω w Im θ kt cs u) : ∀ (es : List MapEntry) (ks : List SV) (i j : Nat) (x : SV) (bs : List SV), LRel P ω w Im θ ks (es.map (·.key)) → ks[j]? = some x → rowK P kt x = some bs → eqLeaves cs bs = some true →
  (∀ j' x', j' < j → ks[j']? = some x' → ∃ bs', rowK P kt x' = some bs' ∧ eqLeaves cs bs' = some false) → ∃ e, es[j]? = some e ∧ (Instr.findAsking kt u es i).run P w = .ok (some (i + j, e.val)) w
 | [], ks, i, j, x, bs, hl, hj, _, _, _ => by have := hl.len; simp at this; subst this; simp at hj
 | e :: es, [], i, j, x, bs, hl, hj, _, _, _ => by simp at hj
 | e :: es, k0 :: ks, i, j, x, bs, hl, hj, hx, ht, hf => by
  have h0 := hl.at_ 0 k0 e.key rfl rfl
  have hl' : LRel P ω w Im θ ks (es.map (·.key)) := ⟨by have := hl.len; simpa using this, fun i v u hv hu => hl.at_ (i + 1) v u (by simpa using hv) (by simpa using hu)⟩
  cases j with
  | zero =>
   simp at hj
   subst hj
   obtain ⟨_, g2, g3⟩ := rowK_is hT hx h0
   have hq := row_equal hT hc g2 hu g3 ht
   exact ⟨e, rfl, by simp [Instr.findAsking, hq]⟩
  | succ j =>
   obtain ⟨b0, g1, g2⟩ := hf 0 k0 (by omega) rfl
   obtain ⟨_, g3, g4⟩ := rowK_is hT g1 h0
   have hq := row_equal hT hc g3 hu g4 g2
   obtain ⟨e', e1, e2⟩ := asking_hit hT hc hu es ks (i + 1) j x bs hl' (by simpa using hj) hx ht (fun j' x' hj' hx' => hf (j' + 1) x' (by omega) (by simpa using hx'))
   exact ⟨e', by simpa using e1, by simp [Instr.findAsking, hq, e2, Nat.add_assoc, Nat.add_comm 1 j]⟩
theorem asking_miss {kt : TypeId} (hT : rowT P kt = true) {cs : List SV} {u : Value} (hc : fitsAll P (leaves P 40 kt) cs = true) (hu : TRel P ω w Im θ kt cs u) : ∀ (es : List MapEntry) (ks : List SV) (i : Nat), LRel P ω w Im θ ks (es.map (·.key)) → (∀ x ∈ ks, ∃ bs, rowK P kt x = some bs ∧ eqLeaves cs bs = some false) →
  (Instr.findAsking kt u es i).run P w = .ok none w
 | [], ks, i, hl, _ => by simp [Instr.findAsking]
 | e :: es, [], i, hl, _ => by have := hl.len; simp at this
 | e :: es, k0 :: ks, i, hl, hf => by
  have h0 := hl.at_ 0 k0 e.key rfl rfl
  have hl' : LRel P ω w Im θ ks (es.map (·.key)) := ⟨by have := hl.len; simpa using this, fun i v u hv hu => hl.at_ (i + 1) v u (by simpa using hv) (by simpa using hu)⟩
  obtain ⟨b0, g1, g2⟩ := hf k0 (by simp)
  obtain ⟨_, g3, g4⟩ := rowK_is hT g1 h0
  have hq := row_equal hT hc g3 hu g4 g2
  simp [Instr.findAsking, hq, asking_miss hT hc hu es ks (i + 1) hl' (fun x hx => hf x (by simp [hx]))]
theorem eqLeaf_same {t : TypeId} {a b : SV} {u v : Value} (hf : fitsLeaf P t a = true) (hg : fitsLeaf P t b = true) (h : eqLeaf a b = some true) (ha : VRel P ω w Im θ a u) (hb : VRel P ω w Im θ b v) : u = v ∧ ∀ n, Instr.sameBits n u u = true := by
 unfold eqLeaf at h
 split at h
 · cases ha; cases hb
   simp only [Option.some.injEq, beq_iff_eq] at h; subst h
   exact ⟨rfl, fun n => by simp [Instr.sameBits]⟩
 · cases ha; cases hb
   simp only [Option.some.injEq, beq_iff_eq] at h; subst h
   unfold fitsLeaf at hf hg
   cases hu : P.underlying t with
   | none => simp [hu] at hf
   | some k =>
    cases k <;> simp [hu] at hf hg
    have e1 := ikEq_eq hf
    have e2 := ikEq_eq hg
    subst e1; subst e2
    exact ⟨rfl, fun n => by simp [Instr.sameBits]⟩
 · cases ha with
   | str h1 => cases hb with
    | str h2 =>
     rename_i s1 s2
     simp only [Option.some.injEq, beq_iff_eq] at h
     have : s1 = s2 := by
      rw [← h1, ← h2] at h
      obtain ⟨x⟩ := s1
      obtain ⟨y⟩ := s2
      congr 1
      exact Array.ext' h
     subst this
     exact ⟨rfl, fun n => by simp only [Instr.sameBits]; exact (MapKept.bytes_beq _ _).2 rfl⟩
 · cases h
theorem eqLeaves_both {a b : SV} {as bs : List SV} (h : eqLeaves (a :: as) (b :: bs) = some true) : eqLeaf a b = some true ∧ eqLeaves as bs = some true := by
 cases as with
 | nil =>
  cases bs with
  | nil => exact ⟨by simpa [eqLeaves] using h, rfl⟩
  | cons c bs =>
   simp only [eqLeaves] at h
   split at h
   · rename_i hx; simp [eqLeaves] at hx
   · cases h
 | cons c as =>
  cases bs with
  | nil =>
   simp only [eqLeaves] at h
   split at h
   · rename_i hx; simp [eqLeaves] at hx
   · cases h
  | cons d bs =>
   have h' : (match eqLeaf a b, eqLeaves (c :: as) (d :: bs) with | some x, some y => some (x && y) | _, _ => none) = some true := by
    rw [← h]; rfl
   split at h'
   · rename_i x y hx hy
     simp only [Option.some.injEq, Bool.and_eq_true] at h'
     obtain ⟨rfl, rfl⟩ := h'
     exact ⟨hx, hy⟩
   · cases h'
theorem leaves_same : ∀ (ts : List TypeId) (as bs : List SV) (us vs : List Value), fitsAll P ts as = true → fitsAll P ts bs = true → eqLeaves as bs = some true → LRel P ω w Im θ as us → LRel P ω w Im θ bs vs → us = vs ∧ ∀ x ∈ us, ∀ n, Instr.sameBits n x x = true
 | [], [], [], us, vs, _, _, _, hA, hB => by
  have e1 := hA.len; have e2 := hB.len
  simp at e1 e2
  have e1' : us = [] := by cases us with | nil => rfl | cons => simp at e1
  have e2' : vs = [] := by cases vs with | nil => rfl | cons => simp at e2
  subst e1'; subst e2'
  exact ⟨rfl, fun x hx => by cases hx⟩
 | [], _ :: _, _, _, _, h, _, _, _, _ => by simp [fitsAll] at h
 | [], [], _ :: _, _, _, _, h, _, _, _ => by simp [fitsAll] at h
 | _ :: _, [], _, _, _, h, _, _, _, _ => by simp [fitsAll] at h
 | _ :: _, _ :: _, [], _, _, _, h, _, _, _ => by simp [fitsAll] at h
 | t :: ts, a :: as, b :: bs, us, vs, hf, hg, h, hA, hB => by
  simp only [fitsAll, Bool.and_eq_true] at hf hg
  obtain ⟨h1, h2⟩ := eqLeaves_both h
  cases us with
  | nil => have := hA.len; simp at this
  | cons u us =>
   cases vs with
   | nil => have := hB.len; simp at this
   | cons v vs =>
    obtain ⟨g1, g2⟩ := eqLeaf_same hf.1 hg.1 h1 (hA.at_ 0 a u rfl rfl) (hB.at_ 0 b v rfl rfl)
    have tl : ∀ {a : SV} {as : List SV} {u : Value} {us : List Value}, LRel P ω w Im θ (a :: as) (u :: us) → LRel P ω w Im θ as us := fun hl => ⟨by have := hl.len; simpa using this, fun i x y hx hy => hl.at_ (i + 1) x y (by simpa using hx) (by simpa using hy)⟩
    obtain ⟨g3, g4⟩ := leaves_same ts as bs us vs hf.2 hg.2 h2 (tl hA) (tl hB)
    refine ⟨by rw [g1, g3], fun x hx => ?_⟩
    rcases List.mem_cons.1 hx with rfl | hx
    · exact g2
    · exact g4 x hx
theorem row_same {kt : TypeId} (hT : rowT P kt = true) {as bs : List SV} {u v : Value} (ha : fitsAll P (leaves P 40 kt) as = true) (hb : fitsAll P (leaves P 40 kt) bs = true)
  (hA : TRel P ω w Im θ kt as u) (hB : TRel P ω w Im θ kt bs v) (he : eqLeaves as bs = some true) : u = v ∧ Instr.sameBits 10000 u u = true := by
 unfold rowT at hT
 simp only [Bool.and_eq_true] at hT
 rcases hA with ⟨_, xs, rfl, hA⟩ | ⟨hc, _⟩
 · rcases hB with ⟨_, ys, rfl, hB⟩ | ⟨hc, _⟩
   · obtain ⟨h1, h2⟩ := leaves_same _ _ _ _ _ ha hb he hA hB
     have h3 : xs = ys := Array.ext' h1
     subst h3
     refine ⟨rfl, ?_⟩
     simp only [Instr.sameBits, beq_self_eq_true, Bool.true_and, List.all_eq_true]
     intro p hp
     have hz : ∀ (l : List Value) (p : Value × Value), p ∈ l.zip l → p.1 = p.2 ∧ p.1 ∈ l := by
      intro l
      induction l with
      | nil => intro p hp; simp at hp
      | cons a l ih =>
       intro p hp
       simp only [List.zip_cons_cons, List.mem_cons] at hp
       rcases hp with rfl | hp
       · exact ⟨rfl, by simp⟩
       · exact ⟨(ih p hp).1, List.mem_cons_of_mem _ (ih p hp).2⟩
     obtain ⟨e1, e2⟩ := hz _ p hp
     rw [← e1]
     exact h2 _ e2 9999
   · rw [hT.2] at hc; cases hc
 · rw [hT.2] at hc; cases hc
theorem lrel_one {v : SV} {u : Value} (hv : VRel P ω w Im θ v u) : LRel P ω w Im θ [v] [u] := ⟨rfl, fun i v u h1 h2 => by
 cases i with
 | zero => simp at h1 h2; subst h1; subst h2; exact hv
 | succ i => simp at h1⟩
theorem hit_lt {es : Array MapEntry} {j : Nat} {e : MapEntry} (h : es.toList[j]? = some e) : j < es.size ∧ es[j]? = some e := by
 rcases Nat.lt_or_ge j es.size with h5 | h5
 · exact ⟨h5, by simpa using h⟩
 · simp [Array.getElem?_eq_none h5] at h
theorem run_mapSetR {t : TypeId} {m k v : SV} {nx nx' : Nat} {r : SV} {ups : List (Nat × Option Chunk)} {rs : List Nat} (hr : HRel P ω w Im θ h) (hm : mrun h (mapSetR P t m k v nx) = some (r, ups, nx', rs)) {um uk uv : Value} (h1 : VRel P ω w Im θ m um) (h2 : VRel P ω w Im θ k uk) (h3 : VRel P ω w Im θ v uv) :
  ∃ w', (Instr.mapUpdate t um uk uv).run P w = .ok () w' ∧ r = .junk ∧ nx' = nx ∧ Ext (fun _ => False) h w Im θ (updF ups h) w' Im θ ∧ HRel P ω w' Im θ (updF ups h) := by
 unfold mapSetR at hm
 split at hm
 case h_2 => simp [mrun] at hm
 rename_i kt et y hu
 have hb0 := bif_fail hm; clear hm; obtain ⟨hT, hm⟩ := hb0
 split at hm
 case h_2 => simp [mrun] at hm
 rename_i cs hk
 obtain ⟨rfl, hfit, htr⟩ := rowK_is hT hk h2
 have hb0 := get_run hm; clear hm; obtain ⟨c, rs', hy, hm, rfl⟩ := hb0
 cases c with
 | mpn bs cl ks vs =>
  simp only [] at hm
  cases h1 with
  | mp hθ =>
   rename_i b N
   obtain ⟨b', N', es, g1, g2, g3, g4, g5⟩ := hr.at_ y _ hy
   rw [hθ] at g1
   simp only [Option.some.injEq, Prod.mk.injEq] at g1
   obtain ⟨rfl, rfl⟩ := g1
   have hck := row_check (w := w) hT hfit htr false
   rcases findR_run ks 0 hm with ⟨j, x, ds, f1, f2, f3, f4, hm2⟩ | ⟨f1, hm2⟩
   · obtain ⟨rfl, rfl, rfl, _⟩ := mrun_done hm2
     obtain ⟨e, e1, e3⟩ := asking_hit hT hfit htr es.toList ks 0 j x ds g3 f1 f2 f3 f4
     have hfk := (run_findKey_eq (P := P) (w := w) (row_wide hT) uk es.toList).trans e3
     obtain ⟨hj, hej⟩ := hit_lt e1
     have hkey := g3.at_ j x e.key f1 (by simp [hej])
     obtain ⟨_, q2, q3⟩ := rowK_is hT f2 hkey
     obtain ⟨q4, q5⟩ := row_same hT hfit q2 htr q3 f3
     have hsame : (Instr.keyThatStays (((es[j]?).map (·.key)).getD uk) uk).run P w = .ok uk w := by
      simp [hej, ← q4, Instr.keyThatStays, q5]
     refine ⟨w.putObj b (.map (es.modify j fun e => { e with key := uk, val := uv }) cl), ?_, rfl, rfl, ?_⟩
     · have hset := MapKept.run_setObj_map (P := P) (.map (es.modify j fun e => { e with key := uk, val := uv }) cl) g2
       simp only [Nat.zero_add] at hfk
       simp [Instr.mapUpdate, run_underlying hu, MapKept.run_getObj_map g2, hck, hfk, hsame, hset, World.putObj]
     · refine put_block hr hy hθ _ _ (fun hI d hd => ?_)
       cases hd
       have hmod : (es.modify j fun e => { e with key := uk, val := uv }).toList = es.toList.set j { e with key := uk, val := uv } := by
        apply List.ext_getElem?
        intro i
        simp only [Array.getElem?_toList, Array.getElem?_modify, List.getElem?_set]
        by_cases hij : j = i
        · subst hij
          have hje : es[j] = e := (Array.getElem?_eq_some_iff.1 hej).2
          simp [hj, hje]
        · simp [hij]
       have keepL : ∀ {α : Type} (l : List α) (x : α), l[j]? = some x → l.set j x = l := by
        intro α l x hx
        apply List.ext_getElem?
        intro i
        rw [List.getElem?_set]
        by_cases hij : j = i
        · subst hij
          have hjl : j < l.length := by
           rcases Nat.lt_or_ge j l.length with h5 | h5
           · exact h5
           · rw [List.getElem?_eq_none h5] at hx; cases hx
          rw [if_pos rfl, if_pos hjl, hx]
        · rw [if_neg hij]
       refine ⟨b, N, _, hθ, World.putObj_heap_same (heap_lt g2), ?_, ?_, ?_⟩
       · rw [hmod, List.map_set]
         simp only [keepL (es.toList.map (·.key)) uk (by simp [hej, q4])]
         exact g3.mono hI (fun _ _ h => h)
       · rw [hmod, List.map_set]
         rw [Nat.zero_add, setN_eq]
         refine ⟨by simpa using g4.len, fun i v' u' hv hu' => ?_⟩
         have hel : es.toList.length = vs.length := by have := g4.len; simp at this ⊢; omega
         rw [List.getElem?_set] at hv hu'
         by_cases hij : j = i
         · subst hij
           have h6 : j < vs.length := by have : j < es.toList.length := by simpa using hj
                                         omega
           have h7 : j < (es.toList.map (·.val)).length := by simpa using hj
           rw [if_pos rfl, if_pos h6, Option.some.injEq] at hv
           rw [if_pos rfl, if_pos h7, Option.some.injEq] at hu'
           subst hv; subst hu'
           exact h3.mono hI (fun _ _ h => h)
         · rw [if_neg hij] at hv hu'
           exact (g4.at_ i v' u' hv hu').mono hI (fun _ _ h => h)
       · rw [hmod, List.map_set]
         simp only [keepL (es.toList.map (·.born)) e.born (by simp [hej])]
         exact g5
   · obtain ⟨rfl, rfl, rfl, _⟩ := mrun_done hm2
     have hfk := (run_findKey_eq (P := P) (w := w) (row_wide hT) uk es.toList).trans (asking_miss hT hfit htr es.toList ks 0 g3 f1)
     refine ⟨w.putObj b (.map (es.push { key := uk, val := uv, born := cl }) (cl + 1)), ?_, rfl, rfl, ?_⟩
     · have hset := MapKept.run_setObj_map (P := P) (.map (es.push { key := uk, val := uv, born := cl }) (cl + 1)) g2
       simp [Instr.mapUpdate, run_underlying hu, MapKept.run_getObj_map g2, hck, hfk, hset, World.putObj]
     · refine put_block hr hy hθ _ _ (fun hI d hd => ?_)
       cases hd
       refine ⟨b, N, _, hθ, World.putObj_heap_same (heap_lt g2), ?_, ?_, ?_⟩
       · simp only [Array.toList_push, List.map_append, List.map_cons, List.map_nil]
         exact (g3.append (lrel_one h2)).mono hI (fun _ _ h => h)
       · simp only [Array.toList_push, List.map_append, List.map_cons, List.map_nil]
         exact (g4.append (lrel_one h3)).mono hI (fun _ _ h => h)
       · simp only [Array.toList_push, List.map_append, List.map_cons, List.map_nil, g5]
 | cells => simp [mrun] at hm
 | loopr => simp [mrun] at hm
 | seq => simp [mrun] at hm
 | mpc => simp [mrun] at hm
 | mpb => simp [mrun] at hm
 | mit => simp [mrun] at hm
 | sqo => simp [mrun] at hm
 | sqp => simp [mrun] at hm
theorem run_lookupR {t : TypeId} {m k : SV} {ok : Bool} {nx nx' : Nat} {r : SV} {ups : List (Nat × Option Chunk)} {rs : List Nat} (hr : HRel P ω w Im θ h) (hm : mrun h (lookupR P t m k ok nx) = some (r, ups, nx', rs)) {um uk : Value} (h1 : VRel P ω w Im θ m um) (h2 : VRel P ω w Im θ k uk) :
  ∃ v, (Instr.lookup t um uk ok).run P w = .ok v w ∧ VRel P ω w Im θ r v ∧ ups = [] ∧ nx' = nx := by
 have pair : ∀ {v : SV} {u : Value} (b : Bool), VRel P ω w Im θ v u → VRel P ω w Im θ (bif ok then .tup [v, .bool b] else v) (if ok = true then .tuple #[u, .bool b] else u) := by
  intro v u b hv
  cases ok with
  | false => simpa using hv
  | true =>
   refine .tup rfl (fun i x y hx hy => ?_)
   match i, hx, hy with
   | 0, hx, hy => cases hx; cases hy; exact hv
   | 1, hx, hy => cases hx; cases hy; exact .bool
 have hzero : ∀ {et : TypeId} {z : SV}, zeroS P et = some z → ∃ uz, (zeroValue et).run P w = .ok uz w ∧ VRel P ω w Im θ z uz := by
  intro et z hz
  unfold zeroS at hz
  cases hi : P.info? et with
  | none => simp [hi] at hz
  | some i =>
   simp only [hi] at hz
   cases hzz : i.zero with
   | none => simp [hzz] at hz
   | some zv =>
    simp only [hzz, Option.some.injEq] at hz
    subst hz
    exact ⟨zv, by simp [zeroValue, typeInfo, hi, hzz], ofValue_rel (ω := ω) w Im θ zv⟩
 unfold lookupR at hm
 split at hm
 case h_2 => simp [mrun] at hm
 rename_i kt et y hu
 have hb0 := bif_fail hm; clear hm; obtain ⟨hT, hm⟩ := hb0
 split at hm
 case h_2 => simp [mrun] at hm
 rename_i z cs hz hk
 obtain ⟨rfl, hfit, htr⟩ := rowK_is hT hk h2
 obtain ⟨uz, hz1, hz2⟩ := hzero hz
 have hb0 := get_run hm; clear hm; obtain ⟨c, rs', hy, hm, rfl⟩ := hb0
 cases c with
 | mpn bs cl ks vs =>
  simp only [] at hm
  cases h1 with
  | mp hθ =>
   rename_i b N
   obtain ⟨b', N', es, g1, g2, g3, g4, g5⟩ := hr.at_ y _ hy
   rw [hθ] at g1
   simp only [Option.some.injEq, Prod.mk.injEq] at g1
   obtain ⟨rfl, rfl⟩ := g1
   have hck := row_check (w := w) hT hfit htr es.isEmpty
   rcases findR_run ks 0 hm with ⟨j, x, ds, f1, f2, f3, f4, hm2⟩ | ⟨f1, hm2⟩
   · obtain ⟨e, e1, e3⟩ := asking_hit hT hfit htr es.toList ks 0 j x ds g3 f1 f2 f3 f4
     have hfk := (run_findKey_eq (P := P) (w := w) (row_wide hT) uk es.toList).trans e3
     simp only [nth?_eq, Nat.zero_add] at hm2
     split at hm2
     case h_2 => simp [mrun] at hm2
     rename_i v hv
     obtain ⟨rfl, rfl, rfl, _⟩ := mrun_done hm2
     have hval := g4.at_ j v e.val hv (by simp [e1])
     refine ⟨_, ?_, pair true hval, rfl, rfl⟩
     simp [Instr.lookup, run_underlying hu, MapKept.run_getObj_map g2, hck, hfk]
   · obtain ⟨rfl, rfl, rfl, _⟩ := mrun_done hm2
     have hfk := (run_findKey_eq (P := P) (w := w) (row_wide hT) uk es.toList).trans (asking_miss hT hfit htr es.toList ks 0 g3 f1)
     refine ⟨_, ?_, pair false hz2, rfl, rfl⟩
     simp [Instr.lookup, run_underlying hu, MapKept.run_getObj_map g2, hck, hfk, hz1]
 | cells => simp [mrun] at hm
 | loopr => simp [mrun] at hm
 | seq => simp [mrun] at hm
 | mpc => simp [mrun] at hm
 | mpb => simp [mrun] at hm
 | mit => simp [mrun] at hm
 | sqo => simp [mrun] at hm
 | sqp => simp [mrun] at hm
theorem delN_eq {α : Type} : ∀ (l : List α) (i : Nat), delN l i = l.eraseIdx i
 | [], _ => by simp [delN]
 | _ :: _, 0 => rfl
 | _ :: l, i + 1 => by simp [delN, delN_eq l i]
theorem map_erase {α β : Type} (f : α → β) : ∀ (l : List α) (i : Nat), (l.eraseIdx i).map f = (l.map f).eraseIdx i
 | [], _ => by simp
 | _ :: _, 0 => by simp
 | a :: l, i + 1 => by simp [map_erase f l i]
theorem memN_mem : ∀ (x : Nat) (l : List Nat), memN x l = true ↔ x ∈ l
 | x, [] => by simp [memN]
 | x, y :: l => by
  simp only [memN, List.mem_cons]
  cases hb : Nat.beq x y with
  | true => simp [Nat.eq_of_beq_eq_true hb]
  | false =>
   have : ¬ x = y := fun e => by rw [nb_t e] at hb; cases hb
   simp [this, memN_mem x l]
theorem LRel.erase {vs : List SV} {us : List Value} (hl : LRel P ω w Im θ vs us) (i : Nat) : LRel P ω w Im θ (vs.eraseIdx i) (us.eraseIdx i) := by
 refine ⟨by simp only [List.length_eraseIdx, hl.len], fun j v u hv hu => ?_⟩
 rw [List.getElem?_eraseIdx] at hv hu
 split at hv
 · rename_i hlt
   rw [if_pos hlt] at hu
   exact hl.at_ _ _ _ hv hu
 · rename_i hlt
   rw [if_neg hlt] at hu
   exact hl.at_ _ _ _ hv hu
theorem run_deleteR {t T : TypeId} {tys : Array TypeId} {m k : SV} {nx nx' : Nat} {r : SV} {ups : List (Nat × Option Chunk)} {rs : List Nat} (hr : HRel P ω w Im θ h) (hm : mrun h (deleteR P t m k nx) = some (r, ups, nx', rs)) {args : Array Value} {um uk : Value} (ht : tys[0]? = some t) (ha0 : args[0]? = some um) (ha1 : args[1]? = some uk) (h1 : VRel P ω w Im θ m um) (h2 : VRel P ω w Im θ k uk) :
  ∃ w', (Builtin.delete_ tys T args).run P w = .ok (.tuple #[]) w' ∧ r = .tup [] ∧ nx' = nx ∧ Ext (fun _ => False) h w Im θ (updF ups h) w' Im θ ∧ HRel P ω w' Im θ (updF ups h) := by
 unfold deleteR at hm
 split at hm
 case h_2 => simp [mrun] at hm
 rename_i kt et y hu
 have hb0 := bif_fail hm; clear hm; obtain ⟨hT, hm⟩ := hb0
 split at hm
 case h_2 => simp [mrun] at hm
 rename_i cs hk
 obtain ⟨rfl, hfit, htr⟩ := rowK_is hT hk h2
 have hb0 := get_run hm; clear hm; obtain ⟨c, rs', hy, hm, rfl⟩ := hb0
 cases c with
 | mpn bs cl ks vs =>
  simp only [] at hm
  cases h1 with
  | mp hθ =>
   rename_i b N
   obtain ⟨b', N', es, g1, g2, g3, g4, g5⟩ := hr.at_ y _ hy
   rw [hθ] at g1
   simp only [Option.some.injEq, Prod.mk.injEq] at g1
   obtain ⟨rfl, rfl⟩ := g1
   have hck := row_check (w := w) hT hfit htr es.isEmpty
   rcases findR_run ks 0 hm with ⟨j, x, ds, f1, f2, f3, f4, hm2⟩ | ⟨f1, hm2⟩
   · obtain ⟨rfl, rfl, rfl, _⟩ := mrun_done hm2
     obtain ⟨e, e1, e3⟩ := asking_hit hT hfit htr es.toList ks 0 j x ds g3 f1 f2 f3 f4
     have hfk := (run_findKey_eq (P := P) (w := w) (row_wide hT) uk es.toList).trans e3
     simp only [Nat.zero_add] at hfk
     refine ⟨w.putObj b (.map (es.eraseIdxIfInBounds j) cl), ?_, rfl, rfl, ?_⟩
     · have hset := MapKept.run_setObj_map (P := P) (.map (es.eraseIdxIfInBounds j) cl) g2
       simp [Builtin.delete_, ht, ha0, ha1, run_underlying hu, MapKept.run_getObj_map g2, hck, hfk, hset, World.putObj]
     · refine put_block hr hy hθ _ _ (fun hI d hd => ?_)
       cases hd
       have hmod : (es.eraseIdxIfInBounds j).toList = es.toList.eraseIdx j := by simp
       simp only [Nat.zero_add, delN_eq]
       refine ⟨b, N, _, hθ, World.putObj_heap_same (heap_lt g2), ?_, ?_, ?_⟩
       · rw [hmod, map_erase]
         exact (g3.erase j).mono hI (fun _ _ h => h)
       · rw [hmod, map_erase]
         exact (g4.erase j).mono hI (fun _ _ h => h)
       · rw [hmod, map_erase, g5]
   · obtain ⟨rfl, rfl, rfl, _⟩ := mrun_done hm2
     have hfk := (run_findKey_eq (P := P) (w := w) (row_wide hT) uk es.toList).trans (asking_miss hT hfit htr es.toList ks 0 g3 f1)
     refine ⟨w.putObj b (.map es cl), ?_, rfl, rfl, ?_⟩
     · have hset := MapKept.run_setObj_map (P := P) (.map es cl) g2
       simp [Builtin.delete_, ht, ha0, ha1, run_underlying hu, MapKept.run_getObj_map g2, hck, hfk, hset, World.putObj]
     · refine put_block hr hy hθ _ _ (fun hI d hd => ?_)
       cases hd
       exact ⟨b, N, _, hθ, World.putObj_heap_same (heap_lt g2), g3.mono hI (fun _ _ h => h), g4.mono hI (fun _ _ h => h), g5⟩
 | cells => simp [mrun] at hm
 | loopr => simp [mrun] at hm
 | seq => simp [mrun] at hm
 | mpc => simp [mrun] at hm
 | mpb => simp [mrun] at hm
 | mit => simp [mrun] at hm
 | sqo => simp [mrun] at hm
 | sqp => simp [mrun] at hm
/- What goes over a map. -/
theorem leftR_mem {seen : List Nat} : ∀ (es : List MapEntry) (ks vs : List SV), LRel P ω w Im θ ks (es.map (·.key)) → LRel P ω w Im θ vs (es.map (·.val)) → ∀ e ∈ es, memN e.born seen = false → ∃ k v, (e.born, k, v) ∈ leftR seen (es.map (·.born)) ks vs ∧ VRel P ω w Im θ k e.key ∧ VRel P ω w Im θ v e.val
 | [], _, _, _, _, e, he, _ => by cases he
 | a :: es, [], _, hk, _, _, _, _ => by have := hk.len; simp at this
 | a :: es, _ :: _, [], _, hv, _, _, _ => by have := hv.len; simp at this
 | a :: es, k :: ks, v :: vs, hk, hv, e, he, hm => by
  have tl : ∀ {a : SV} {as : List SV} {u : Value} {us : List Value}, LRel P ω w Im θ (a :: as) (u :: us) → LRel P ω w Im θ as us := fun hl => ⟨by have := hl.len; simpa using this, fun i x y hx hy => hl.at_ (i + 1) x y (by simpa using hx) (by simpa using hy)⟩
  simp only [List.map_cons] at hk hv ⊢
  rcases List.mem_cons.1 he with rfl | he
  · refine ⟨k, v, ?_, hk.at_ 0 k _ rfl rfl, hv.at_ 0 v _ rfl rfl⟩
    simp [leftR, hm]
  · obtain ⟨k', v', h1, h2, h3⟩ := leftR_mem es ks vs (tl hk) (tl hv) e he hm
    refine ⟨k', v', ?_, h2, h3⟩
    simp only [leftR]
    cases memN a.born seen with
    | true => exact h1
    | false => exact List.mem_cons_of_mem _ h1
theorem leftR_nil {seen : List Nat} : ∀ (es : List MapEntry) (ks vs : List SV), (∀ e ∈ es, memN e.born seen = true) → leftR seen (es.map (·.born)) ks vs = []
 | [], ks, vs, _ => by simp [leftR]
 | a :: es, [], vs, _ => by simp [leftR]
 | a :: es, _ :: _, [], _ => by simp [leftR]
 | a :: es, k :: ks, v :: vs, h => by
  simp only [List.map_cons, leftR, h a (by simp), cond_true]
  exact leftR_nil es ks vs (fun e he => h e (by simp [he]))
theorem drew_rel (hr : HRel P ω w Im θ h) {w1 : World} (h1 : w1 = w ∨ w1 = w.drew) : HRel P ω w1 Im θ h ∧ Ext (fun _ => False) h w Im θ h w1 Im θ := by
 rcases h1 with rfl | rfl
 · exact ⟨hr, Ext.refl _⟩
 · have same : ∀ b, Im b → Im b ∧ w.drew.heap[b]? = w.heap[b]? := fun b hb => ⟨hb, rfl⟩
   exact ⟨⟨fun x c hx => (hr.at_ x c hx).mono same (fun _ _ h => h) rfl (fun _ _ _ => rfl), hr.inj, hr.own, hr.im, hr.gl.mono same⟩,
    ⟨fun _ _ => rfl, fun _ _ h => h, fun _ h => h, Nat.le_refl _, fun _ _ _ => rfl, fun _ h => .inl h, fun x c b N hx hθ => .inl ⟨x, c, N, hx, hθ⟩, rfl, rfl, rfl⟩⟩
theorem run_nextAll {y z since last cl : Nat} {seen bs : List Nat} {ks vs : List SV} (hr : HRel P ω w Im θ h) (hy : h y = some (.mit z since seen last)) (hz : h z = some (.mpn bs cl ks vs)) (hok : ageOk since last bs = true) {u : Value} (hu : VRel P ω w Im θ (.ptr y 0) u) (ty : TypeId) :
  (leftR seen bs ks vs = [] ∧ (Instr.next u false ty).run P w = .ok (.tuple #[.bool false]) w) ∨
  ∃ b k v, (b, k, v) ∈ leftR seen bs ks vs ∧ ∃ uk uv w', (Instr.next u false ty).run P w = .ok (.tuple #[.bool true, uk, uv]) w' ∧ VRel P ω w' Im θ k uk ∧ VRel P ω w' Im θ v uv ∧
   Ext (fun _ => False) h w Im θ (updF [(y, some (.mit z since (seen ++ [b]) cl))] h) w' Im θ ∧ HRel P ω w' Im θ (updF [(y, some (.mit z since (seen ++ [b]) cl))] h) := by
 obtain ⟨b, N, zb, zN, g1, g2, g3⟩ := hr.at_ y _ hy
 obtain ⟨zb', zN', es, k1, k2, k3, k4, k5⟩ := hr.at_ z _ hz
 rw [g2] at k1
 simp only [Option.some.injEq, Prod.mk.injEq] at k1
 obtain ⟨rfl, rfl⟩ := k1
 cases hu with
 | ptr hθ =>
  rw [g1] at hθ
  simp only [Option.some.injEq, Prod.mk.injEq] at hθ
  obtain ⟨rfl, rfl⟩ := hθ
  unfold ageOk at hok
  simp only [Bool.and_eq_true, List.all_eq_true] at hok
  have hold : ∀ x ∈ es.toList, x.born < since := fun x hx => by
   have := hok.1 x.born (by rw [← k5]; exact List.mem_map.2 ⟨x, hx, rfl⟩)
   rwa [Nat.blt_eq] at this
  have hmem : ∀ e : MapEntry, (e ∈ (leftOf es seen.toArray).toList) ↔ e ∈ es.toList ∧ memN e.born seen = false := by
   intro e
   have : (memN e.born seen = false) ↔ ¬ e.born ∈ seen := by
    rw [← memN_mem]; simp
   simp [leftOf, this]
  rcases run_next_at (P := P) w ty b zb since last seen.toArray es cl g3 k2 hold (Nat.le_of_ble_eq_true hok.2) with ⟨q1, q2⟩ | ⟨e, q1, w1, q2, q3⟩
  · refine .inl ⟨?_, q2⟩
    rw [← k5]
    refine leftR_nil es.toList ks vs (fun e he => ?_)
    cases hmm : memN e.born seen with
    | true => rfl
    | false =>
     have := (hmem e).2 ⟨he, hmm⟩
     have h0 : (leftOf es seen.toArray).toList = [] := by
      have : (leftOf es seen.toArray).toList.length = 0 := by simpa using q1
      exact List.length_eq_zero_iff.1 this
     rw [h0] at this
     cases this
  · obtain ⟨m1, m2⟩ := (hmem e).1 q1
    obtain ⟨k, v, l1, l2, l3⟩ := leftR_mem es.toList ks vs k3 k4 e m1 m2
    rw [k5] at l1
    obtain ⟨d1, d2⟩ := drew_rel hr q2
    have hw1 : w1.heap[b]? = some (.mapIter (some zb) since seen.toArray last) := by rcases q2 with rfl | rfl <;> exact g3
    have hp := put_block d1 hy g1 (.mapIter (some zb) since (seen.toArray.push e.born) cl) (some (.mit z since (seen ++ [e.born]) cl)) (fun hI d hd => by
     cases hd
     exact ⟨b, N, zb, zN, g1, g2, by rw [World.putObj_heap_same (heap_lt hw1)]; simp⟩)
    have hE := d2.trans hp.1
    refine .inr ⟨e.born, k, v, l1, e.key, e.val, w1.putObj b (.mapIter (some zb) since (seen.toArray.push e.born) cl), q3, ?_, ?_, hE, hp.2⟩
    · exact hE.val hr l2
    · exact hE.val hr l3
theorem run_nextR {x : SV} {nx nx' : Nat} {r : SV} {ups : List (Nat × Option Chunk)} {rs : List Nat} (hr : HRel P ω w Im θ h) (hm : mrun h (nextR x nx) = some (r, ups, nx', rs)) {u : Value} (hx : VRel P ω w Im θ x u) (ty : TypeId) :
  ∃ v w', (Instr.next u false ty).run P w = .ok v w' ∧ VRel P ω w' Im θ r v ∧ nx' = nx ∧ Ext (fun _ => False) h w Im θ (updF ups h) w' Im θ ∧ HRel P ω w' Im θ (updF ups h) := by
 unfold nextR at hm
 split at hm
 case h_2 => simp [mrun] at hm
 rename_i y
 have hb0 := get_run hm; clear hm; obtain ⟨c, rs1, hy, hm, rfl⟩ := hb0
 split at hm
 case h_2 => simp [mrun] at hm
 rename_i z since seen last
 have hb0 := get_run hm; clear hm; obtain ⟨d, rs2, hz, hm, rfl⟩ := hb0
 split at hm
 case h_2 => simp [mrun] at hm
 rename_i bs cl ks vs
 have hb0 := bif_fail hm; clear hm; obtain ⟨hok, hm⟩ := hb0
 simp only [Bool.and_eq_true] at hok
 have hall := run_nextAll (P := P) hr hy hz hok.1.1 hx ty
 split at hm
 · rename_i hl
   obtain ⟨rfl, rfl, rfl, _⟩ := mrun_done hm
   rcases hall with ⟨_, h2⟩ | ⟨b, k, v, h1, _⟩
   · refine ⟨_, w, h2, .tup rfl (fun i v u hv hu => ?_), rfl, Ext.refl _, hr⟩
     match i, hv, hu with
     | 0, hv, hu => cases hv; cases hu; exact .bool
   · rw [hl] at h1; cases h1
 · rename_i b k v hl
   obtain ⟨rfl, rfl, rfl, _⟩ := mrun_done hm
   rcases hall with ⟨h1, _⟩ | ⟨b', k', v', h1, uk, uv, w', h2, h3, h4, h5, h6⟩
   · rw [hl] at h1; cases h1
   · rw [hl, List.mem_singleton] at h1
     cases h1
     refine ⟨_, w', h2, .tup rfl (fun i v u hv hu => ?_), rfl, h5, h6⟩
     match i, hv, hu with
     | 0, hv, hu => cases hv; cases hu; exact .bool
     | 1, hv, hu => cases hv; cases hu; exact h3
     | 2, hv, hu => cases hv; cases hu; exact h4
 · simp [mrun] at hm
theorem lastN_eq : ∀ (l : List Nat), lastN l = l.getLast?
 | [] => rfl
 | [_] => rfl
 | _ :: b :: l => by
  rw [lastN, lastN_eq (b :: l), List.getLast?_cons_cons]
  intro h; cases h
theorem bornR_find {b : Nat} : ∀ (es : List MapEntry) (ks vs : List SV) {k v : SV}, LRel P ω w Im θ ks (es.map (·.key)) → LRel P ω w Im θ vs (es.map (·.val)) → bornR b (es.map (·.born)) ks vs = some (k, v) →
  ∃ e, es.find? (fun e => e.born == b) = some e ∧ VRel P ω w Im θ k e.key ∧ VRel P ω w Im θ v e.val
 | [], _, _, _, _, _, _, h => by simp [bornR] at h
 | a :: es, [], _, _, _, _, _, h => by simp [bornR] at h
 | a :: es, _ :: _, [], _, _, _, _, h => by simp [bornR] at h
 | a :: es, k0 :: ks, v0 :: vs, k, v, hk, hv, h => by
  have tl : ∀ {a : SV} {as : List SV} {u : Value} {us : List Value}, LRel P ω w Im θ (a :: as) (u :: us) → LRel P ω w Im θ as us := fun hl => ⟨by have := hl.len; simpa using this, fun i x y hx hy => hl.at_ (i + 1) x y (by simpa using hx) (by simpa using hy)⟩
  simp only [List.map_cons] at hk hv h
  simp only [bornR] at h
  cases hb : Nat.beq a.born b with
  | true =>
   rw [hb] at h
   simp only [cond_true, Option.some.injEq, Prod.mk.injEq] at h
   obtain ⟨rfl, rfl⟩ := h
   have : a.born = b := Nat.eq_of_beq_eq_true hb
   exact ⟨a, by simp [this], hk.at_ 0 _ _ rfl rfl, hv.at_ 0 _ _ rfl rfl⟩
  | false =>
   rw [hb] at h
   simp only [cond_false] at h
   obtain ⟨e, e1, e2, e3⟩ := bornR_find es ks vs (tl hk) (tl hv) h
   have hne : ¬ a.born = b := fun e => by rw [nb_t e] at hb; cases hb
   exact ⟨e, by simp [hne, e1], e2, e3⟩
theorem run_entryR {x : SV} {nx nx' : Nat} {r : SV} {ups : List (Nat × Option Chunk)} {rs : List Nat} (hr : HRel P ω w Im θ h) (hm : mrun h (entryR x nx) = some (r, ups, nx', rs)) {u : Value} (hx : VRel P ω w Im θ x u) :
  ∃ v, (Instr.entry u).run P w = .ok v w ∧ VRel P ω w Im θ r v ∧ ups = [] ∧ nx' = nx := by
 unfold entryR at hm
 split at hm
 case h_2 => simp [mrun] at hm
 rename_i y
 have hb0 := get_run hm; clear hm; obtain ⟨c, rs1, hy, hm, rfl⟩ := hb0
 split at hm
 case h_2 => simp [mrun] at hm
 rename_i z since seen last
 have hb0 := get_run hm; clear hm; obtain ⟨d, rs2, hz, hm, rfl⟩ := hb0
 split at hm
 case h_2 => simp [mrun] at hm
 rename_i bs cl ks vs
 have hb0 := bif_fail hm; clear hm; obtain ⟨hcl, hm⟩ := hb0
 have hcl' : cl = last := Nat.eq_of_beq_eq_true hcl
 subst hcl'
 split at hm
 case h_2 => simp [mrun] at hm
 rename_i b hlast
 split at hm
 case h_2 => simp [mrun] at hm
 rename_i k v hb
 obtain ⟨rfl, rfl, rfl, _⟩ := mrun_done hm
 obtain ⟨bb, N, zb, zN, g1, g2, g3⟩ := hr.at_ y _ hy
 obtain ⟨zb', zN', es, k1, k2, k3, k4, k5⟩ := hr.at_ z _ hz
 rw [g2] at k1
 simp only [Option.some.injEq, Prod.mk.injEq] at k1
 obtain ⟨rfl, rfl⟩ := k1
 rw [← k5] at hb
 obtain ⟨e, e1, e2, e3⟩ := bornR_find es.toList ks vs k3 k4 hb
 have hf : es.find? (fun e => e.born == b) = some e := by rw [← Array.find?_toList]; exact e1
 cases hx with
 | ptr hθ =>
  rw [g1] at hθ
  simp only [Option.some.injEq, Prod.mk.injEq] at hθ
  obtain ⟨rfl, rfl⟩ := hθ
  have hbk : seen.toArray.back? = some b := by rw [lastN_eq] at hlast; simpa using hlast
  refine ⟨.tuple #[e.key, e.val], ?_, .tup rfl (fun i v u hv hu => ?_), rfl, rfl⟩
  · simp only [Instr.entry, getObj, Sem.run_bind, Sem.run, g3, k2, Result.andThen, hbk, bne_self_eq_false, Bool.false_eq_true, if_false, hf]
    rfl
  · match i, hv, hu with
    | 0, hv, hu => cases hv; cases hu; exact e2
    | 1, hv, hu => cases hv; cases hu; exact e3
theorem run_rangeR {t : TypeId} {m : SV} {nx nx' : Nat} {r : SV} {ups : List (Nat × Option Chunk)} {rs : List Nat} (hr : HRel P ω w Im θ h) (hfr : ∀ x, nx ≤ x → x < nx' → θ x = none ∧ h x = none) (hm : mrun h (rangeR P t m nx) = some (r, ups, nx', rs)) {um : Value} (hx : VRel P ω w Im θ m um) :
  ∃ v w' θ' Im', (Instr.range t um).run P w = .ok v w' ∧ Ext (fun x => nx ≤ x ∧ x < nx') h w Im θ (updF ups h) w' Im' θ' ∧ VRel P ω w' Im' θ' r v ∧ HRel P ω w' Im' θ' (updF ups h) := by
 unfold rangeR at hm
 split at hm
 case h_2 => simp [mrun] at hm
 rename_i kt et z hu
 have hb0 := get_run hm; clear hm; obtain ⟨d, rs2, hz, hm, rfl⟩ := hb0
 split at hm
 case h_2 => simp [mrun] at hm
 rename_i bs cl ks vs
 obtain ⟨rfl, rfl, rfl, _⟩ := mrun_done hm
 obtain ⟨f1, f2⟩ := hfr nx (Nat.le_refl _) (Nat.lt_succ_self _)
 obtain ⟨zb, zN, es, k1, k2, k3, k4, k5⟩ := hr.at_ z _ hz
 cases hx with
 | mp hθ =>
  rw [k1] at hθ
  simp only [Option.some.injEq, Prod.mk.injEq] at hθ
  obtain ⟨rfl, rfl⟩ := hθ
  have hzx : ¬ z = nx := fun e => by rw [e, f1] at k1; cases k1
  obtain ⟨θ', h1, h2, h3⟩ := name_step hr f1 f2 (ds := []) (ys := []) (fun y hy => by cases hy) (w' := w.alloc (.mapIter (some zb) cl #[] cl)) (b := w.heap.size) (N := 0) (.inl ⟨Nat.le_refl _, by simp⟩) (by simp) (fun d _ hd => alloc_old w _ d hd) rfl rfl rfl (.mit z cl [] cl)
   (fun θ' a g3 _ => ⟨_, 0, zb, zN, a, g3 _ _ k1, by rw [alloc_new]⟩)
  exact ⟨.pointer (some ⟨w.heap.size, 0, none⟩), w.alloc (.mapIter (some zb) cl #[] cl), θ', _, by simp [Instr.range, run_underlying hu, MapKept.run_getObj_map k2], by simpa [drops] using h1, .ptr h3, by simpa [drops] using h2⟩
theorem run_makeMapAny {t : TypeId} {nx nx' : Nat} {r : SV} {ups : List (Nat × Option Chunk)} {rs : List Nat} (hr : HRel P ω w Im θ h) (hfr : ∀ x, nx ≤ x → x < nx' → θ x = none ∧ h x = none) (hm : mrun h (makeMapX P t nx) = some (r, ups, nx', rs)) {rv : Option Value} (hrv : ∀ n, rv = some n → ∃ i, n = .int .i64 i) :
  ∃ v w' θ' Im', (Instr.makeMap t rv).run P w = .ok v w' ∧ Ext (fun x => nx ≤ x ∧ x < nx') h w Im θ (updF ups h) w' Im' θ' ∧ VRel P ω w' Im' θ' r v ∧ HRel P ω w' Im' θ' (updF ups h) := by
 have nilL : ∀ {w : World} {Im : Nat → Prop} {θ : Th}, LRel P ω w Im θ [] [] := ⟨rfl, fun i v u h => by simp at h⟩
 unfold makeMapX at hm
 split at hm
 case h_2 => simp [mrun] at hm
 rename_i kt et hu
 have base : (Instr.makeMap t rv).run P w = .ok (.map (some w.heap.size)) (w.alloc (.map #[] 0)) := by
  cases rv with
  | none => simp [Instr.makeMap]
  | some n =>
   obtain ⟨i, rfl⟩ := hrv n rfl
   simp [Instr.makeMap, run_underlying hu, asInt, asIntOf]
 have each : ∀ (c : Chunk), (∀ {w' : World} {Im' : Nat → Prop} {θ' : Th}, w'.heap[w.heap.size]? = some (.map #[] 0) → θ' nx = some (w.heap.size, 0) → CRel P ω w' Im' θ' nx c) → r = .mp nx → ups = [(nx, some c)] → nx' = nx + 1 →
   ∃ v w' θ' Im', (Instr.makeMap t rv).run P w = .ok v w' ∧ Ext (fun x => nx ≤ x ∧ x < nx') h w Im θ (updF ups h) w' Im' θ' ∧ VRel P ω w' Im' θ' r v ∧ HRel P ω w' Im' θ' (updF ups h) := by
  intro c hc e1 e2 e3
  subst e1; subst e2; subst e3
  obtain ⟨f1, f2⟩ := hfr nx (Nat.le_refl _) (Nat.lt_succ_self _)
  obtain ⟨θ', Im', h1, h2, h3⟩ := new_step hr f1 f2 (w' := w.alloc (.map #[] 0)) (N := 0) (by simp) (fun d hd => alloc_old w _ d hd) rfl rfl rfl c (fun θ' a => hc (alloc_new w _) a)
  exact ⟨_, _, θ', Im', base, h1, .mp h3, h2⟩
 cases hT : rowT P kt with
 | true =>
  rw [hT] at hm
  obtain ⟨rfl, rfl, rfl, _⟩ := mrun_done hm
  exact each (.mpn [] 0 [] []) (by intro w' Im' θ' g1 g2; exact ⟨_, _, #[], g2, g1, nilL, nilL, rfl⟩) rfl rfl rfl
 | false =>
  rw [hT] at hm
  simp only [cond_false] at hm
  split at hm
  · rename_i kd _ _
    obtain ⟨rfl, rfl, rfl, _⟩ := mrun_done hm
    exact each (.mpb kd []) (by intro w' Im' θ' g1 g2; exact ⟨_, _, #[], 0, g2, g1, nilL, nilL, fun e he => by simp at he⟩) rfl rfl rfl
  · obtain ⟨rfl, rfl, rfl, _⟩ := mrun_done hm
    exact each (.mpc [] []) (by intro w' Im' θ' g1 g2; exact ⟨_, _, #[], 0, g2, g1, nilL, nilL, fun e he => by simp at he⟩) rfl rfl rfl
end
end Go.Am
/- The abstract machine: lists that are read from their head and grow at their end. -/
namespace Go.Am
variable {P : Program} {ω : Nat → Value}
inductive DstQ (P : Program) (w : World) (θ : Th) (h : HpF) (e : TypeId) (dead : List Nat) (n : Nat) (uf : Nat → Value) : Value → Prop
 | none {p : Option Addr} : n = 0 → DstQ P w θ h e dead n uf (.slice p 0 0)
 | row {b off cap y : Nat} {c0 : Chunk} {N' : Nat} {cs : Array Value} {fr : Nat × Nat} : y ∈ dead → h y = some c0 → θ y = some (b, N') → w.heap[b]? = some (.cells cs e fr) → fine cs.size fr → n ≤ cap → off + cap * P.cellsOf e ≤ cs.size →
   (∀ i, i < n → ∀ (d : Nat) (c : Value), (uf i).cells[d]? = some c → cs[off + i * P.cellsOf e + d]? = some c) → DstQ P w θ h e dead n uf (.slice (some ⟨b, off, none⟩) n cap)
section
variable {w : World} {t t2 e : TypeId} {i : TypeInfo} {z : Value} {tys : Array TypeId} {args : Array Value} {ty : TypeId}
theorem grow_runQ {w : World} {Im : Nat → Prop} {θ : Th} {h : HpF} (hr : HRel P ω w Im θ h) {nx : Nat} (hθ : θ nx = none) (hnx : h nx = none) {dead ys : List Nat} (hap : apartN dead ys = true) {es fs : List SV} {us vs : Nat → Value}
  (hes : Elems P w (frozenBy Im θ h ys) e es us) (hfs : Elems P w (frozenBy Im θ h ys) e fs vs) (hpl : plainE P e = true)
  (h0 : tys[0]? = some t) (h1 : tys[1]? = some t2) (ht : P.underlying t = some (.slice e)) (ht2 : listLike P t2 = true) (hi : P.info? e = some i) (hz : i.zero = some z) (hzs : z.cells.size = P.cellsOf e)
  {s x : Value} (a0 : args[0]? = some s) (a1 : args[1]? = some x) (hd : DstQ P w θ h e dead es.length us s) (hsrc : Src P w (P.cellsOf e) x fs.length (flat vs fs.length))
  (hpos : 0 < fs.length) (h63 : es.length + fs.length ≤ 9223372036854775807) (hb : (es.length + fs.length) * i.bytes ≤ 140737488355328) :
  ∃ v' w' θ', (Builtin.append_ tys ty args).run P w = .ok v' w' ∧ Ext (fun x => nx ≤ x ∧ x < nx + 1) h w Im θ (updF (drops (dead ++ ys) ++ [(nx, some (.sqo e (es ++ fs)))]) h) w' (frozenBy Im θ h ys) θ' ∧
   HRel P ω w' (frozenBy Im θ h ys) θ' (updF (drops (dead ++ ys) ++ [(nx, some (.sqo e (es ++ fs)))]) h) ∧ VRel P ω w' (frozenBy Im θ h ys) θ' (.qo nx (P.cellsOf e) (es.length + fs.length)) v' := by
 have hsize : i.size = P.cellsOf e := by simp [Program.cellsOf, hi]
 have hsub : ∀ y ∈ ys, y ∈ dead ++ ys := fun y hy => List.mem_append.2 (.inr hy)
 have happ := hes.append hfs
 have hfl := flat_len (us := us) es.length hes.size
 have hgl := flat_len (us := vs) fs.length hfs.size
 have hones : ∀ u ∈ flat vs fs.length, u.oneCell' = true := by
  intro u hu
  obtain ⟨k, hk, huk⟩ := flat_mem _ u hu
  have hrel := (hfs.rel k fs[k] (by simp [hk])).1
  exact (plain_cells hpl (hfs.fit _ (List.getElem_mem hk)) hrel).1 u huk
 -- out of place
 have out : ∀ {p : Option Addr} {cap : Nat}, s = .slice p es.length cap → (∀ w' : World, w'.heap = w.heap → (Builtin.firstCells i.size es.length (.slice p es.length cap)).run P w' = .ok (flat us es.length).toArray w') → cap < es.length + fs.length →
   ∃ v' w' θ', (Builtin.append_ tys ty args).run P w = .ok v' w' ∧ Ext (fun x => nx ≤ x ∧ x < nx + 1) h w Im θ (updF (drops (dead ++ ys) ++ [(nx, some (.sqo e (es ++ fs)))]) h) w' (frozenBy Im θ h ys) θ' ∧
    HRel P ω w' (frozenBy Im θ h ys) θ' (updF (drops (dead ++ ys) ++ [(nx, some (.sqo e (es ++ fs)))]) h) ∧ VRel P ω w' (frozenBy Im θ h ys) θ' (.qo nx (P.cellsOf e) (es.length + fs.length)) v' := by
  intro p cap hs ho hgt
  subst hs
  have hge := grownCap_ge w (es.length + fs.length) cap e
  have hrun := append_out (args := args) (ty := ty) h0 h1 ht ht2 hi hz a0 a1 (by rw [hsize]; exact hsrc) ho hgt h63 hb
  generalize hcells : ((flat us es.length).toArray ++ (flat vs fs.length).toArray ++ Builtin.zeroCells z.cells (grownCap w (es.length + fs.length) cap e - (es.length + fs.length))) = cells at hrun
  have hcs : cells.size = grownCap w (es.length + fs.length) cap e * P.cellsOf e := by
   rw [← hcells]
   simp only [Array.size_append, List.size_toArray, hfl, hgl, size_zeroCells, hzs, ← Nat.add_mul]
   congr 1; omega
  obtain ⟨θ', hE, hH, hn⟩ := name_step hr hθ hnx hsub (ds := dead ++ ys) (w' := w.drew.alloc (.cells cells e)) (b := w.heap.size) (N := enc 0 (grownCap w (es.length + fs.length) cap e)) (.inl ⟨Nat.le_refl _, by simp⟩) (by simp) (fun d _ hdl => alloc_old w.drew _ d hdl) rfl rfl rfl (.sqo e (es ++ fs)) (fun θ' g1 g2 g3 => by
   refine ⟨w.heap.size, 0, grownCap w (es.length + fs.length) cap e, cells, (0, 0), _, g1, alloc_new w.drew _, fun i _ hh => by omega, by rw [hcs]; simp, by rw [List.length_append]; exact hge, happ.fit, fun i v hv => ⟨((happ.mono g3).rel i v hv).1, (happ.rel i v hv).2, ?_⟩⟩
   have := grown_cells hes hfs (cells := cells.toList) (fun j u hj => by
     rw [← hcells]
     simp only [Array.toList_append, List.append_assoc]
     rw [← List.append_assoc, List.getElem?_append_left]
     · exact hj
     · rcases Nat.lt_or_ge j (flat us es.length ++ flat vs fs.length).length with h3 | h3
       · exact h3
       · simp [List.getElem?_eq_none h3] at hj) i v hv
   intro d c hd
   have := this d c hd
   simpa using this)
  exact ⟨_, _, θ', hrun, hE, hH, .qo hn hge⟩
 cases hd with
 | none hn0 =>
  rename_i p
  have hes0 : es = [] := List.eq_nil_of_length_eq_zero hn0
  subst hes0
  exact out (p := p) (cap := 0) rfl (fun w' _ => (src_none (P := P) (w := w) (sz := i.size) (cap := 0) (p := p)).cells w' ‹_›) (by simp; omega)
 | row hy hyh hyθ hheap hfine hle hcap hcells =>
  rename_i b off cap y c0 N' cs fr
  have hsrc0 : Src P w i.size (.slice (some ⟨b, off, none⟩) es.length cap) es.length (flat us es.length) := by
   refine src_slice (by rw [hsize]; exact hfl) (flat_at hes.size (fun i hi d c hd => ?_))
   rw [add_off]
   simp only [World.cell?, hheap]
   have := hcells i hi d c hd
   rw [Nat.add_assoc] at this
   exact this
  by_cases hfit : es.length + fs.length ≤ cap
  · have hmul : (es.length + fs.length) * P.cellsOf e ≤ cap * P.cellsOf e := Nat.mul_le_mul_right _ hfit
    have hadd : (es.length + fs.length) * P.cellsOf e = es.length * P.cellsOf e + fs.length * P.cellsOf e := Nat.add_mul _ _ _
    have hroom : off + es.length * P.cellsOf e + (flat vs fs.length).length ≤ cs.size := by
     rw [hgl]; omega
    have hst := run_storeCells_fine P b (off + es.length * P.cellsOf e) e fr (flat vs fs.length) 0 cs w hheap hfine (by simpa using hroom) hones
    simp only [Nat.add_zero] at hst
    have hrun := append_in (args := args) (ty := ty) h0 h1 ht ht2 hi a0 a1 (by rw [hsize]; exact hsrc) hfit (w' := w.setRow b (cs.toList.take (off + es.length * P.cellsOf e) ++ flat vs fs.length ++ cs.toList.drop (off + es.length * P.cellsOf e + (flat vs fs.length).length)).toArray) (by rw [add_off, hsize]; exact hst)
    generalize hcells' : (cs.toList.take (off + es.length * P.cellsOf e) ++ flat vs fs.length ++ cs.toList.drop (off + es.length * P.cellsOf e + (flat vs fs.length).length)).toArray = cells at hrun
    have hcs : cells.size = cs.size := by
     rw [← hcells']
     simp only [List.size_toArray, List.length_append, List.length_take, List.length_drop, Array.length_toList]
     omega
    have hyys : y ∉ ys := apartN_spec _ _ hap y hy
    obtain ⟨θ', hE, hH, hn⟩ := name_step hr hθ hnx hsub (ds := dead ++ ys) (w' := w.setRow b cells) (b := b) (N := enc off cap) (.inr ⟨y, c0, N', List.mem_append.2 (.inl hy), hyys, hyh, hyθ⟩) (by simp [World.setRow]) (fun d hd _ => setRow_other w b d _ hd) rfl rfl rfl (.sqo e (es ++ fs)) (fun θ' g1 g2 g3 => by
     refine ⟨b, off, cap, cells, fr, _, g1, setRow_heap w b cs _ e fr hheap, by rw [hcs]; exact hfine, by rw [hcs]; exact hcap, by rw [List.length_append]; exact hfit, happ.fit, fun i v hv => ⟨((happ.mono g3).rel i v hv).1, (happ.rel i v hv).2, ?_⟩⟩
     have := grown_cells hes hfs (cells := cells.toList.drop off) (fun j u hj => by
       rw [← hcells']
       simp only []
       have hjl : j < (flat us es.length ++ flat vs fs.length).length := by
        rcases Nat.lt_or_ge j (flat us es.length ++ flat vs fs.length).length with h3 | h3
        · exact h3
        · simp [List.getElem?_eq_none h3] at hj
       rw [List.length_append, hfl, hgl] at hjl
       rw [List.getElem?_drop]
       have hlt : (cs.toList.take (off + es.length * P.cellsOf e)).length = off + es.length * P.cellsOf e := by
        rw [List.length_take, show cs.toList.length = cs.size from Array.length_toList]; omega
       by_cases hj1 : j < es.length * P.cellsOf e
       · rw [List.getElem?_append_left (by rw [hfl]; exact hj1)] at hj
         rw [List.append_assoc, List.getElem?_append_left (by rw [hlt]; omega), List.getElem?_take, if_pos (by omega)]
         have := flat_at (us := us) (m := es.length) hes.size (at_ := fun j => cs[off + j]?) (fun i hi d c hd => by rw [← Nat.add_assoc]; exact hcells i hi d c hd) j _ hj
         simpa using this
       · rw [List.getElem?_append_right (by rw [hfl]; omega), hfl] at hj
         rw [List.append_assoc, List.getElem?_append_right (by rw [hlt]; omega), hlt, List.getElem?_append_left (by rw [hgl]; omega)]
         rw [show off + j - (off + es.length * P.cellsOf e) = j - es.length * P.cellsOf e by omega]
         exact hj) i v hv
     intro d c hd
     have := this d c hd
     rw [List.getElem?_drop, ← Nat.add_assoc] at this
     simpa using this)
    exact ⟨_, _, θ', hrun, hE, hH, .qo hn hfit⟩
  · exact out (p := some ⟨b, off, none⟩) (cap := cap) rfl (fun w' hw => hsrc0.cells w' hw) (by omega)
end
section
variable {w : World} {Im : Nat → Prop} {θ : Th} {h : HpF}
theorem growQ_inv {e : TypeId} {es news : List SV} {dead ys : List Nat} {nx nx' : Nat} {r : SV} {ups : List (Nat × Option Chunk)} {rs : List Nat} (hm : mrun h (growQ P e es news dead ys nx) = some (r, ups, nx', rs)) :
  ∃ i z, P.info? e = some i ∧ i.zero = some z ∧ z.cells.size = P.cellsOf e ∧ apartN dead ys = true ∧ 0 < news.length ∧ es.length + news.length ≤ 9223372036854775807 ∧ (es.length + news.length) * i.bytes ≤ 140737488355328 ∧
   r = .qo nx (P.cellsOf e) (es.length + news.length) ∧ ups = drops (dead ++ ys) ++ [(nx, some (.sqo e (es ++ news)))] ∧ nx' = nx + 1 := by
 unfold growQ at hm
 split at hm
 case h_2 => simp [mrun] at hm
 rename_i i hi
 split at hm
 case h_2 => simp [mrun] at hm
 rename_i z hz
 have hb0 := bif_fail hm; clear hm; obtain ⟨hk, hm⟩ := hb0
 simp only [Bool.and_eq_true] at hk
 have hb0 := mrun_ite_fail' hm; clear hm; obtain ⟨hc, hm⟩ := hb0
 simp only [Bool.and_eq_true, decide_eq_true_eq] at hc
 obtain ⟨rfl, rfl, rfl, _⟩ := mrun_done hm
 exact ⟨i, z, hi, hz, Nat.eq_of_beq_eq_true hk.1.1, hk.2, hc.1, hc.2.1, hc.2.2, rfl, rfl, rfl⟩
theorem run_slcQ {t : TypeId} {y sz n : Nat} {k : IntKind} {l : Int} {nx nx' : Nat} {r : SV} {ups : List (Nat × Option Chunk)} {rs : List Nat} (hr : HRel P ω w Im θ h) (hfr : ∀ x, nx ≤ x → x < nx' → θ x = none ∧ h x = none) (hm : mrun h (slcQ P t y sz n l nx) = some (r, ups, nx', rs)) {u ul : Value} (hx : VRel P ω w Im θ (.qo y sz n) u) (hl : VRel P ω w Im θ (.int k l) ul) :
  ∃ v w' θ' Im', (Instr.sliceAt t u (some ul) none none).run P w = .ok v w' ∧ Ext (fun x => nx ≤ x ∧ x < nx') h w Im θ (updF ups h) w' Im' θ' ∧ VRel P ω w' Im' θ' r v ∧ HRel P ω w' Im' θ' (updF ups h) := by
 unfold slcQ at hm
 split at hm
 case h_2 => simp [mrun] at hm
 rename_i e hu
 have hb0 := bif_fail hm; clear hm; obtain ⟨hk, hm⟩ := hb0
 simp only [Bool.and_eq_true] at hk
 have : sz = P.cellsOf e := Nat.eq_of_beq_eq_true hk.1
 subst this
 obtain ⟨ie, hie⟩ := known_info hk.2
 have hb0 := get_run hm; clear hm; obtain ⟨c, rs', hy, hm, rfl⟩ := hb0
 split at hm
 case h_2 => simp [mrun] at hm
 rename_i e' es
 have hb0 := bif_fail hm; clear hm; obtain ⟨he, hm⟩ := hb0
 have : e = e' := Nat.eq_of_beq_eq_true he
 subst this
 have hb0 := mrun_ite_fail' hm; clear hm; obtain ⟨hc, hm⟩ := hb0
 simp only [Bool.and_eq_true, decide_eq_true_eq] at hc
 obtain ⟨⟨c1, c2⟩, c3⟩ := hc
 obtain ⟨rfl, rfl, rfl, _⟩ := mrun_done hm
 cases hl
 obtain ⟨m, rfl⟩ := Int.eq_ofNat_of_zero_le c1
 have hmn : m ≤ n := by omega
 obtain ⟨b, off, cap, cs, fr, us, g1, g2, g3, g4, g5, g6, g7⟩ := hr.at_ y _ hy
 obtain ⟨f1, f2⟩ := hfr nx (Nat.le_refl _) (Nat.lt_succ_self _)
 have hbd : ∀ cap' : Nat, n ≤ cap' → (Instr.sliceBounds true n cap' (some (.int k (m : Int))) none none).run P w = .ok (m, n, cap') w := by
  intro cap' _
  simp [Instr.sliceBounds, Instr.sliceBound, asIntOf, hmn]
 -- the new name
 have name : ∀ (off' cap' : Nat), off' + cap' * P.cellsOf e ≤ cs.size → (es.drop m).length ≤ cap' → (∀ (i : Nat) (v : SV), (es.drop m)[i]? = some v → ∀ (d : Nat) (c : Value), (us (m + i)).cells[d]? = some c → cs[off' + i * P.cellsOf e + d]? = some c) →
   ∃ θ', Ext (fun x => nx ≤ x ∧ x < nx + 1) h w Im θ (updF [(y, none), (nx, some (.sqo e (es.drop m)))] h) w (frozenBy Im θ h []) θ' ∧ HRel P ω w (frozenBy Im θ h []) θ' (updF [(y, none), (nx, some (.sqo e (es.drop m)))] h) ∧ θ' nx = some (b, enc off' cap') := by
  intro off' cap' q1 q2 q3
  obtain ⟨θ', hE, hH, hn⟩ := name_step hr f1 f2 (ds := [y]) (ys := []) (fun y hy => by cases hy) (w' := w) (b := b) (N := enc off' cap') (.inr ⟨y, _, _, by simp, by simp, hy, g1⟩) (Nat.le_refl _) (fun d _ _ => rfl) rfl rfl rfl (.sqo e (es.drop m)) (fun θ' a1 a2 a3 => by
   refine ⟨b, off', cap', cs, fr, fun i => us (m + i), a1, g2, g3, q1, q2, fun v hv => g6 v (List.mem_of_mem_drop hv), fun i v hv => ⟨?_, ?_, q3 i v hv⟩⟩
   · rw [List.getElem?_drop] at hv
     exact (g7 _ v hv).1.mono (frozenBy_up w) (fun _ _ h => h)
   · rw [List.getElem?_drop] at hv
     exact (g7 _ v hv).2.1)
  exact ⟨θ', by simpa [drops] using hE, by simpa [drops] using hH, hn⟩
 have hmt : ((m : Nat) : Int).toNat = m := rfl
 rw [hmt]
 cases hx with
 | qo hθ hn =>
  rename_i b' off' cap'
  rw [g1] at hθ
  simp only [Option.some.injEq, Prod.mk.injEq] at hθ
  obtain ⟨rfl, hθ⟩ := hθ
  obtain ⟨rfl, rfl⟩ := enc_inj hθ
  by_cases hcm : cap = m
  · obtain ⟨θ', hE, hH, hn'⟩ := name off cap g4 (by rw [List.length_drop]; omega) (fun i v hv d c hd => by
      rw [List.getElem?_drop] at hv
      have : m + i < es.length := by
       rcases Nat.lt_or_ge (m + i) es.length with h5 | h5
       · exact h5
       · rw [List.getElem?_eq_none h5] at hv; cases hv
      omega)
    refine ⟨.slice (some ⟨b, off, none⟩) 0 0, w, θ', _, ?_, hE, .qonil (by omega), hH⟩
    subst hcm
    have hnm : n - cap = 0 := by omega
    simp [Instr.sliceAt, Instr.slice, run_underlying hu, hbd cap hn, run_sizeOf' hie, hnm]
  · have hsub : (cap - m) * P.cellsOf e = cap * P.cellsOf e - m * P.cellsOf e := Nat.sub_mul _ _ _
    have hmc : m * P.cellsOf e ≤ cap * P.cellsOf e := Nat.mul_le_mul_right _ (by omega)
    obtain ⟨θ', hE, hH, hn'⟩ := name (off + m * P.cellsOf e) (cap - m) (by omega) (by rw [List.length_drop]; omega) (fun i v hv d c hd => by
     rw [List.getElem?_drop] at hv
     have := (g7 _ v hv).2.2 d c hd
     rw [Nat.add_mul] at this
     rw [show off + m * P.cellsOf e + i * P.cellsOf e + d = off + (m * P.cellsOf e + i * P.cellsOf e) + d by omega]
     exact this)
    refine ⟨.slice (some ⟨b, off + m * P.cellsOf e, none⟩) (n - m) (cap - m), w, θ', _, ?_, hE, .qo hn' (by omega), hH⟩
    simp [Instr.sliceAt, Instr.slice, run_underlying hu, hbd cap hn, run_sizeOf' hie, hcm, add_off]
 | qonil h0 =>
  rename_i p
  have hm0 : m = 0 := by omega
  subst hm0
  subst h0
  obtain ⟨θ', hE, hH, hn'⟩ := name off cap g4 (by rw [List.drop_zero]; exact g5) (fun i v hv d c hd => by
   rw [List.drop_zero] at hv
   have := (g7 _ v hv).2.2 d c (by simpa using hd)
   exact this)
  refine ⟨.slice p 0 0, w, θ', _, ?_, hE, .qonil (by omega), hH⟩
  have hb0 : (Instr.sliceBounds true 0 0 (some (.int k 0)) none none).run P w = .ok (0, 0, 0) w := hbd 0 (Nat.le_refl _)
  simp [Instr.sliceAt, Instr.slice, run_underlying hu, hb0, run_sizeOf' hie]
end
end Go.Am
