/- What is advertised: slices.SortFunc, laid at the keys. -/
import Derived.Test.YtkbbiaobohlogaaPart1
import Derived.Shelf.SlSortCmp.NoneTotal
import Derived.Shelf.SlLaysF0
import Derived.Test.YtkbbiaobohlogaaPart7
import Derived.Test.YtkbbiaobohlogaaMachine9
set_option linter.unusedVariables false
set_option linter.unusedSimpArgs false
namespace Go.Proofs.Ytkbbiaobohlogaa
def laysF_ren : Go.Shelf.Ren := ⟨fun | 6 => 51 | 15 => 64 | 14 => 63 | 28 => 80 | 29 => 81 | 20 => 72 | 21 => 73 | 22 => 74 | 23 => 75 | 24 => 76 | 25 => 77 | 26 => 78 | 27 => 79 | 46 => 84 | 47 => 85 | 48 => 86 | 49 => 87 | 50 => 88 | 57 => 89 | n => n, fun | 22 => 25 | 24 => 39 | 25 => 29 | 3 => 3 | 39 => 103 | 0 => 0 | 53 => 33 | 55 => 30 | 4 => 4 | 46 => 116 | 45 => 115 | 50 => 120 | 5 => 5 | 9 => 9 | 66 => 126 | 70 => 130 | 76 => 132 | 77 => 133 | n => n, fun | n => n⟩
theorem laysF : Go.Proofs.SlLaysF0.n6 Try.prog laysF_ren := {
 mixed := by kernel_rfl
 f6 := ⟨ "slices.SortFunc[[]leafmesh/api.NLRI,leafmesh/api.NLRI]", by decide, Try.func51.trans (congrArg some (by kernel_rfl))⟩
 f14 := ⟨ "slices.pdqsortCmpFunc[leafmesh/api.NLRI]", by decide, Try.func63.trans (congrArg some (by kernel_rfl))⟩
 f15 := Try.func64.trans (congrArg some (by kernel_rfl))
 f20 := ⟨ "slices.insertionSortCmpFunc[leafmesh/api.NLRI]", by decide, Try.func72.trans (congrArg some (by kernel_rfl))⟩
 f21 := ⟨ "slices.heapSortCmpFunc[leafmesh/api.NLRI]", by decide, Try.func73.trans (congrArg some (by kernel_rfl))⟩
 f22 := ⟨ "slices.breakPatternsCmpFunc[leafmesh/api.NLRI]", by decide, Try.func74.trans (congrArg some (by kernel_rfl))⟩
 f23 := ⟨ "slices.choosePivotCmpFunc[leafmesh/api.NLRI]", by decide, Try.func75.trans (congrArg some (by kernel_rfl))⟩
 f24 := ⟨ "slices.reverseRangeCmpFunc[leafmesh/api.NLRI]", by decide, Try.func76.trans (congrArg some (by kernel_rfl))⟩
 f25 := ⟨ "slices.partialInsertionSortCmpFunc[leafmesh/api.NLRI]", by decide, Try.func77.trans (congrArg some (by kernel_rfl))⟩
 f26 := ⟨ "slices.partitionEqualCmpFunc[leafmesh/api.NLRI]", by decide, Try.func78.trans (congrArg some (by kernel_rfl))⟩
 f27 := ⟨ "slices.partitionCmpFunc[leafmesh/api.NLRI]", by decide, Try.func79.trans (congrArg some (by kernel_rfl))⟩
 f28 := Try.func80.trans (congrArg some (by kernel_rfl))
 f29 := Try.func81.trans (congrArg some (by kernel_rfl))
 f46 := ⟨ "slices.siftDownCmpFunc[leafmesh/api.NLRI]", by decide, Try.func84.trans (congrArg some (by kernel_rfl))⟩
 f47 := Try.func85.trans (congrArg some (by kernel_rfl))
 f48 := Try.func86.trans (congrArg some (by kernel_rfl))
 f49 := ⟨ "slices.medianAdjacentCmpFunc[leafmesh/api.NLRI]", by decide, Try.func87.trans (congrArg some (by kernel_rfl))⟩
 f50 := ⟨ "slices.medianCmpFunc[leafmesh/api.NLRI]", by decide, Try.func88.trans (congrArg some (by kernel_rfl))⟩
 f57 := ⟨ "slices.order2CmpFunc[leafmesh/api.NLRI]", by decide, Try.func89.trans (congrArg some (by kernel_rfl))⟩
 t0 := Try.underlying0
 a0 := Try.isAgg0
 z0 := Try.sizeOf0
 v0 := Try.zeroValue0
 t3 := Try.underlying3
 a3 := Try.isAgg3
 z3 := Try.sizeOf3
 v3 := Try.zeroValue3
 t4 := Try.underlying4
 a4 := Try.isAgg4
 z4 := Try.sizeOf4
 v4 := Try.zeroValue4
 t5 := Try.underlying5
 a5 := Try.isAgg5
 z5 := Try.sizeOf5
 v5 := Try.zeroValue5
 t9 := Try.underlying9
 a9 := Try.isAgg9
 z9 := Try.sizeOf9
 v9 := Try.zeroValue9
 t22 := Try.underlying25
 a22 := Try.isAgg25
 z22 := Try.sizeOf25
 v22 := Try.zeroValue25
 t25 := Try.underlying29
 a25 := Try.isAgg29
 z25 := Try.sizeOf29
 v25 := Try.zeroValue29
 t39 := Try.underlying103
 a39 := Try.isAgg103
 z39 := Try.sizeOf103
 v39 := Try.zeroValue103
 t45 := Try.underlying115
 a45 := Try.isAgg115
 z45 := Try.sizeOf115
 v45 := Try.zeroValue115
 t46 := Try.underlying116
 a46 := Try.isAgg116
 z46 := Try.sizeOf116
 v46 := Try.zeroValue116
 t50 := Try.underlying120
 a50 := Try.isAgg120
 z50 := Try.sizeOf120
 v50 := Try.zeroValue120
 t53 := Try.underlying33
 a53 := Try.isAgg33
 z53 := Try.sizeOf33
 v53 := Try.zeroValue33
 t55 := Try.underlying30
 a55 := Try.isAgg30
 z55 := Try.sizeOf30
 v55 := Try.zeroValue30
 t66 := Try.underlying126
 a66 := Try.isAgg126
 z66 := Try.sizeOf126
 v66 := Try.zeroValue126
 t70 := Try.underlying130
 a70 := Try.isAgg130
 z70 := Try.sizeOf130
 v70 := Try.zeroValue130
 t76 := Try.underlying132
 a76 := Try.isAgg132
 z76 := Try.sizeOf132
 v76 := Try.zeroValue132
 t77 := Try.underlying133
 a77 := Try.isAgg133
 z77 := Try.sizeOf133
 v77 := Try.zeroValue133 }
end Go.Proofs.Ytkbbiaobohlogaa
/- What is advertised: keys sorted. -/
namespace Go.Proofs.Ytkbbiaobohlogaa
open Go.Am Go.Sort Go.Shelf
set_option maxRecDepth 100000
def valC : SV → Value
 | .int k n => .int k n
 | .bool b => .bool b
 | _ => undef
def scalS : SV → Bool
 | .int _ _ => true
 | .bool _ => true
 | _ => false
theorem cs_scal (n : Nk) : ∀ v ∈ n.cs, scalS v = true := by
 intro v hv
 unfold Nk.cs at hv
 simp only [List.mem_cons, List.not_mem_nil, or_false] at hv
 rcases hv with rfl | rfl | rfl | rfl | rfl | rfl | rfl | rfl | rfl | rfl | rfl | rfl | rfl | rfl | rfl | rfl | rfl | rfl | rfl | rfl | rfl <;> rfl
section
variable {P : Program} {w : World} {Im : Nat → Prop} {ω : Nat → Value} {θ : Th}
theorem vr_scal {v : SV} (h : scalS v = true) : VRel P ω w Im θ v (valC v) := by
 cases v <;> first | exact .int | exact .bool | cases h
theorem vr_scal_eq {v : SV} {u : Value} (h : scalS v = true) (hv : VRel P ω w Im θ v u) : u = valC v := by
 cases hv <;> first | rfl | cases h
theorem lr_scal {cs : List SV} (h : ∀ v ∈ cs, scalS v = true) : LRel P ω w Im θ cs (cs.map valC) := by
 refine ⟨by simp, fun i v u hv hu => ?_⟩
 rw [List.getElem?_map, hv] at hu
 cases hu
 exact vr_scal (h v (List.mem_of_getElem? hv))
theorem vr_agg {cs : List SV} (h : ∀ v ∈ cs, scalS v = true) : VRel P ω w Im θ (.agg cs) (.agg (cs.map valC).toArray) := by
 refine .agg (by simp) (fun i v u hv hu => ?_)
 exact (lr_scal h).at_ i v u hv (by simpa using hu)
theorem vr_agg_eq {cs : List SV} {u : Value} (h : ∀ v ∈ cs, scalS v = true) (hv : VRel P ω w Im θ (.agg cs) u) : u = .agg (cs.map valC).toArray := by
 cases hv with
 | agg h1 h2 =>
  rename_i us
  congr 1
  apply Array.ext_getElem?
  intro i
  cases hu : us[i]? with
  | none =>
   have : us.size ≤ i := by simpa using hu
   simp [show cs.length ≤ i by omega]
  | some u =>
   have hlt : i < us.size := by
    have := (Array.getElem?_eq_some_iff.1 hu).1; exact this
   have hc : cs[i]? = some (cs[i]'(by omega)) := List.getElem?_eq_getElem _
   have := vr_scal_eq (h _ (List.mem_of_getElem? hc)) (h2 i _ u hc hu)
   simp [hc, this]
end
abbrev KS := {s : SV // KyOk s}
def zN : Nk := ⟨fun _ => 0, false⟩
theorem okN_of {n m : Nk} (h : n.cs = m.cs) (hn : okN n) : okN m := by
 unfold Nk.cs at h
 simp only [List.cons.injEq, SV.int.injEq, true_and, and_true, SV.bool.injEq] at h
 obtain ⟨h0, h1, h2, h3, h4, h5, h6, h7, h8, h9, h10, h11, h12, h13, h14, h15, h16, h17, h18, h19, h20⟩ := h
 obtain ⟨a1, a2, a3, a4, a5⟩ := hn
 refine ⟨fun i b1 b2 => ?_, by rw [← h12]; exact a2, by rw [← h14]; exact a3, by rw [← h16]; exact a4, by rw [← h18]; exact a5⟩
 have hc := a1 i b1 b2
 have h3' : i = 2 ∨ i = 3 ∨ i = 4 ∨ i = 5 ∨ i = 6 ∨ i = 7 ∨ i = 8 ∨ i = 9 ∨ i = 10 ∨ i = 11 := by omega
 rcases h3' with rfl | rfl | rfl | rfl | rfl | rfl | rfl | rfl | rfl | rfl <;> simp only [← h2, ← h3, ← h4, ← h5, ← h6, ← h7, ← h8, ← h9, ← h10, ← h11] <;> exact hc
theorem okN_zero : okN zN := by
 refine ⟨fun i _ _ => ?_, ?_, ?_, ?_, ?_⟩ <;> simp [zN, rng32]
theorem kyOk_key {n : Nk} (h : okN n) : KyOk (.agg (keyN n).cs) :=
 ⟨congrArg SV.agg (nE_agg _).symm, okN_of (nE_agg _).symm (okN_key h), (keyN_cs (nE_agg _)).trans ((key_key n).trans (nE_agg _).symm)⟩
instance instKS : Inhabited KS := ⟨⟨.agg (keyN zN).cs, kyOk_key okN_zero⟩⟩
def encK (x : KS) : List Value := (nE x.1).cs.map valC
def cfK (x y : KS) : Int := cf x.1 y.1
theorem encK_len (x : KS) : (encK x).length = 21 := rfl
theorem encK_one (x : KS) : ∀ v ∈ encK x, v.oneCell' = true := by
 intro v hv
 obtain ⟨s, hs, rfl⟩ := List.mem_map.1 hv
 have := cs_scal _ s hs
 cases s <;> first | rfl | cases this
theorem swoK : SWO (Go.Proofs.ltOf cfK) := by
 refine ⟨fun x => ?_, fun x y z h1 h2 => ?_, fun x y z h1 h2 => ?_⟩
 · exact decide_eq_false (by show ¬ cf x.1 x.1 < 0; rw [cf_self]; omega)
 · exact decide_eq_true (cf_trans (of_decide_eq_true h1) (of_decide_eq_true h2))
 · exact decide_eq_false (cf_ntrans (of_decide_eq_false h1) (of_decide_eq_false h2))
theorem totK (x y : KS) (h1 : Go.Proofs.ltOf cfK x y = false) (h2 : Go.Proofs.ltOf cfK y x = false) : x = y := by
 have a1 : ¬ cf x.1 y.1 < 0 := of_decide_eq_false h1
 have a2 : ¬ cf y.1 x.1 < 0 := of_decide_eq_false h2
 have a3 := cf_anti x.1 y.1
 exact Subtype.ext (cf_key x.2 y.2 (by omega))
theorem canon_nil : Canon [] := by
 first | exact ⟨⟩ | (intro x c h; cases h) | (unfold Canon; simp)
theorem cmpLaysK (blk off size : Nat) (w : World) : Go.Proofs.CmpLays Try.prog 40 #[] encK 21 cfK blk off size w := by
 intro m os dk _ x y
 generalize sortWorldK encK 21 w blk off m dk os = W
 have hr : crun (cmp_s [.agg (nE x.1).cs, .agg (nE y.1).cs] []) = some (.int .i64 (cfK x y), []) := by
  unfold cmp_s
  simp only []
  rw [crun_ite, dec_iff.2 ⟨(nOf_cs _).symm, (nOf_cs _).symm, okN_of (nOf_cs _).symm x.2.2.1, okN_of (nOf_cs _).symm y.2.2.1⟩, cond_true]
  show some (SV.int .i64 (cmpK _ _), []) = _
  refine congrArg (fun z => some (SV.int .i64 z, ([] : List (Nat × Option Chunk)))) ?_
  rw [cmpK_eq]
  show _ = cf x.1 y.1
  rw [cf_eq, ov_cs (keyN_cs (nOf_cs _)), ov_cs (keyN_cs (nOf_cs (nE y.1)))]
 have hl : LRel Try.prog om0 W (fun _ => False) noTh [.agg (nE x.1).cs, .agg (nE y.1).cs] [.agg (encK x).toArray, .agg (encK y).toArray] := by
  refine ⟨rfl, fun i v u hv hu => ?_⟩
  match i, hv, hu with
  | 0, hv, hu => cases hv; cases hu; exact vr_agg (cs_scal _)
  | 1, hv, hu => cases hv; cases hu; exact vr_agg (cs_scal _)
 have hh : HRel Try.prog om0 W (fun _ => False) noTh (HpL.get []) :=
  ⟨fun x c h => by simp [HpL.get] at h, fun x y c c' b N N' h => by simp [HpL.get] at h, fun x c b N h => by simp [HpL.get] at h, fun b h => h.elim, GlobR.empty (by kernel_rfl)⟩
 refine (c40_k.ok _ _ _ _ hr canon_nil om0 noTh (fun _ => False) W _ hl hh (fun _ _ => rfl)).mono ?_
 rintro e w' ⟨u, θ', Im', rfl, hE, hv, -⟩
 refine ⟨by cases hv; rfl, w'.drawn - W.drawn, w'.heap.extract W.heap.size, ?_⟩
 have hk : ∀ b, b < W.heap.size → w'.heap[b]? = W.heap[b]? := fun b hb => hE.keep b hb (fun x c N h => by simp [HpL.get] at h)
 have hsz := hE.size
 obtain ⟨heap, tape, drawn, os', output⟩ := w'
 have e1 := hE.os
 have e2 := hE.output
 have e3 := hE.tape
 have e4 := hE.drawn
 simp only at e1 e2 e3 e4 hk hsz ⊢
 subst e1; subst e2; subst e3
 unfold grow World.drewN
 simp only [World.mk.injEq, and_true, true_and]
 refine ⟨?_, by omega⟩
 apply Array.ext_getElem?
 intro i
 by_cases hi : i < W.heap.size
 · rw [Array.getElem?_append_left hi]; exact hk i hi
 · rw [Array.getElem?_append_right (by omega)]
   simp only [Array.getElem?_extract]
   by_cases hi2 : i < heap.size
   · rw [if_pos (by omega), show W.heap.size + (i - W.heap.size) = i by omega]
   · rw [if_neg (by omega)]; simp; omega
end Go.Proofs.Ytkbbiaobohlogaa
/- What is advertised: slices.SortFunc of keys, known. -/
namespace Go.Proofs.Ytkbbiaobohlogaa
open Go.Am Go.Sort Go.Shelf
set_option maxRecDepth 100000
def srOk (es : List SV) (n : Nat) : Prop := n = es.length ∧ es.length ≤ 100000 ∧ ∀ s ∈ es, KyOk s
def toK : (es : List SV) → (∀ s ∈ es, KyOk s) → List KS
 | [], _ => []
 | s :: es, h => ⟨s, h s (.head _)⟩ :: toK es (fun t ht => h t (.tail _ ht))
theorem toK_val : ∀ {es : List SV} (h : ∀ s ∈ es, KyOk s), (toK es h).map Subtype.val = es
 | [], _ => rfl
 | s :: es, h => by simp only [toK, List.map_cons, toK_val]
theorem toK_len {es : List SV} (h : ∀ s ∈ es, KyOk s) : (toK es h).length = es.length := by
 have := congrArg List.length (toK_val h); simpa using this
theorem sortK_toK {es : List SV} (h : ∀ s ∈ es, KyOk s) : ((toK es h).mergeSort fun x y => !(Go.Proofs.ltOf cfK) y x).map Subtype.val = sortK es := by
 refine (List.map_mergeSort (f := Subtype.val) (r := fun x y => !(Go.Proofs.ltOf cfK) y x) (s := fun x y => !decide (cf y x < 0)) (fun a _ b _ => rfl)).trans ?_
 rw [toK_val]; rfl
theorem sortK_len (es : List SV) : (sortK es).length = es.length := (List.mergeSort_perm _ _).length_eq
theorem cells39 : Try.prog.cellsOf 39 = 21 := by kernel_rfl
theorem ky_us {w : World} {Im : Nat → Prop} {s : SV} {u : Value} (h : KyOk s) (hv : VRel Try.prog om0 w Im noTh s u) : u = .agg ((nE s).cs.map valC).toArray := by
 rw [h.1] at hv; exact vr_agg_eq (cs_scal _) hv
noncomputable def sort_s : CSumm := fun args H => match args, H with
 | [.qs 0 21 0 n, .fn (.func 40) [] []], [(0, .seq 39 es)] => .ite (dec (srOk es n)) (.ret (.tup []) [(0, some (.seq 39 (sortK es)))]) .fail
 | _, _ => .fail
theorem hpl1 {c : Chunk} {x : Nat} {d : Chunk} (h : HpL.get [(0, c)] x = some d) : x = 0 ∧ d = c := by
 simp only [HpL.get] at h
 cases h0 : Nat.beq 0 x with
 | true => rw [h0, cond_true] at h; cases h; exact ⟨(Nat.eq_of_beq_eq_true h0).symm, rfl⟩
 | false => rw [h0, cond_false] at h; cases h
theorem sort_k : Known Try.prog 51 sort_s := by
 refine ⟨⟨Try.f51, Try.func51, noNum_at noNumTry Try.func51, by kernel_rfl⟩, ?_⟩
 intro args H v ups hr hc ω θ Im w us hl hH hfr
 unfold sort_s at hr
 split at hr
 case h_2 => cases hr
 rename_i n es
 rw [crun_ite] at hr
 cases hd : dec (srOk es n) with
 | false => rw [hd] at hr; cases hr
 | true =>
  rw [hd, cond_true] at hr
  cases hr
  obtain ⟨hn, hlen, hky⟩ := dec_iff.1 hd
  have h51 : laysF_ren.f 6 = 51 := rfl
  obtain ⟨u1, u2, rfl, hv1, hv2⟩ := hl.pair
  have e2 : u2 = .func (.func 40) #[] #[] := by
   cases hv2 with
   | @fn _ _ _ _ _ us vs a1 a2 _ _ =>
    have b1 : us = #[] := Array.eq_empty_of_size_eq_zero (by simpa using a1.symm)
    have b2 : vs = #[] := Array.eq_empty_of_size_eq_zero (by simpa using a2.symm)
    rw [b1, b2]
  subst e2
  have hget : HpL.get [(0, Chunk.seq 39 es)] 0 = some (.seq 39 es) := rfl
  have none_case : es = [] → ∀ p cap, u1 = .slice p 0 cap → Calls Try.prog 51 #[u1, .func (.func 40) #[] #[]] w fun e w' => ∃ u θ' Im', e = .returned u ∧ Ext (fun x => [(0, Chunk.seq 39 es)].length ≤ x) (HpL.get [(0, Chunk.seq 39 es)]) w Im θ (updF [(0, some (.seq 39 (sortK es)))] (HpL.get [(0, Chunk.seq 39 es)])) w' Im' θ' ∧ VRel Try.prog ω w' Im' θ' (.tup []) u ∧ HRel Try.prog ω w' Im' θ' (updF [(0, some (.seq 39 (sortK es)))] (HpL.get [(0, Chunk.seq 39 es)])) := by
   rintro he p cap rfl
   have hf : updF [(0, some (.seq 39 (sortK es)))] (HpL.get [(0, Chunk.seq 39 es)]) = HpL.get [(0, Chunk.seq 39 es)] := by
    funext x
    subst he
    simp only [updF]
    by_cases h0 : x = 0
    · subst h0; simp [HpL.get, sortK]
    · rw [if_neg h0]
   rw [hf]
   refine (Go.Proofs.AnyF.slices_SortFunc_none laysF p cap (.func (.func 40) #[] #[]) w).mono ?_
   rintro e w' ⟨rfl, rfl⟩
   exact ⟨_, θ, Im, rfl, .refl _, .tup rfl (fun i v u a => by simp at a), hH⟩
  show Calls Try.prog 51 #[u1, .func (.func 40) #[] #[]] w _
  by_cases he : es = []
  · cases hv1 with
    | qs a1 a2 a3 => subst he; simp at hn; subst hn; exact none_case rfl _ _ rfl
    | qsnil a1 => exact none_case he _ _ rfl
  · have hpos : 0 < es.length := by cases es with
      | nil => exact absurd rfl he
      | cons _ _ => simp
    cases hv1 with
    | qsnil a1 => omega
    | qs a1 a2 a3 =>
     rename_i b N cap
     rcases hH.at_ 0 _ hget with ⟨h1, -⟩ | ⟨b', N', cs, T, fr, vs, c1, c2, c3, ⟨c4, c5⟩, c6, c7, c8⟩
     · exact absurd h1 he
     · rw [a1] at c1
       cases c1
       subst c5
       rw [cells39] at c6 c8
       let d : Array KS := (toK es hky).toArray
       have hdsz : d.size = es.length := by simp [d, toK_len]
       have hdv : ∀ i (hi : i < es.length), d[i]!.1 = es[i] := by
        intro i hi
        have e1 : d[i]! = (toK es hky)[i]'(by rw [toK_len]; exact hi) := by rw [getElem!_pos d i (by rw [hdsz]; exact hi)]; simp [d]
        have e2 : ((toK es hky).map Subtype.val)[i]? = es[i]? := by rw [toK_val]
        rw [List.getElem?_map, List.getElem?_eq_getElem (by rw [toK_len]; exact hi), List.getElem?_eq_getElem hi] at e2
        rw [e1]; simpa using e2
       have hcell : ∀ t, t < es.length * 21 → cs[t]? = some (flatK encK 21 d)[t]! := by
        intro t ht
        rw [get_flatK _ _ _ t (by rw [hdsz]; exact ht)]
        have hi : t / 21 < es.length := by omega
        have hj : t % 21 < 21 := by omega
        obtain ⟨g1, g2, g3⟩ := c8 (t / 21) es[t / 21] (List.getElem?_eq_getElem hi)
        have gu := ky_us (hky _ (List.getElem_mem hi)) g1
        have gk : vs (t / 21) = .agg (encK d[t / 21]!).toArray := by rw [gu]; unfold encK; rw [hdv _ hi]
        have := g3 (t % 21) ((encK d[t / 21]!)[t % 21]!) (by
         rw [gk]
         show ((encK d[t / 21]!).toArray)[t % 21]? = _
         rw [List.getElem?_toArray, List.getElem?_eq_getElem (by rw [encK_len]; exact hj), getElem!_pos (encK d[t / 21]!) (t % 21) (by rw [encK_len]; exact hj)])
        rw [show t / 21 * 21 + t % 21 = t by omega] at this
        exact this
       have hb : b < w.heap.size := (hH.own 0 _ b N hget a1).2
       have hHk : HoldsK encK 21 w b 0 d := by
        intro j hj
        have hj' : j < es.length * 21 := by rw [size_flatK, hdsz] at hj; exact hj
        have hjs : j < cs.size := by rw [c4]; omega
        refine ⟨?_, ?_⟩
        · simp only [World.cell?, c2, Nat.zero_add]
          exact hcell j hj'
        · simp only [World.frozen?, c2, Nat.zero_add]
          have := c3 j hjs
          simp only [Bool.and_eq_false_iff, decide_eq_false_iff_not]
          by_cases hq : fr.1 ≤ j
          · exact .inr (fun h => this ⟨hq, h⟩)
          · exact .inl hq
       have hC := Go.Proofs.AnyQ.slices_SortFunc_total laysF 21 (fun w => Try.isAgg39 w) (fun w => Try.sizeOf39 w) encK encK_len encK_one cfK swoK 40 #[] b 0 cap d w (Go.Proofs.enters_of Try.func40 (noNum_at noNumTry Try.func40) (c := Try.f40.body.getD .skip) (by kernel_rfl)) (cmpLaysK b 0 d.size w) hHk hb (by rw [hdsz]; omega) totK
       rw [hdsz] at hC
       rw [hn, Nat.zero_mul]
       refine hC.mono ?_
       rintro e w' ⟨rfl, m, os, rfl⟩
       have hd' : (d.toList.mergeSort fun x y => !(Go.Proofs.ltOf cfK) y x).map Subtype.val = sortK es := sortK_toK hky
       generalize (d.toList.mergeSort fun x y => !(Go.Proofs.ltOf cfK) y x) = l at hd'
       have hll : l.length = es.length := by
        have := congrArg List.length hd'
        rw [List.length_map, sortK_len] at this; exact this
       have hFs : (flatK encK 21 l.toArray).size = es.length * 21 := by rw [size_flatK]; simp [hll]
       have hFg : ∀ t, t < es.length * 21 → (flatK encK 21 l.toArray)[t]! = (encK l.toArray[t / 21]!)[t % 21]! := fun t ht => get_flatK _ _ _ t (by simpa [hll] using ht)
       generalize hFd : flatK encK 21 l.toArray = F at hFs hFg
       have hheap : (sortWorldK encK 21 w b 0 m l.toArray os).heap = (w.heap.modify b (onCells (putCells id 0 F))) ++ os := by
        unfold sortWorldK putRowK putRow mapBlock grow
        rw [hFd]; rfl
       have hW : ∀ i, i < w.heap.size → i ≠ b → (sortWorldK encK 21 w b 0 m l.toArray os).heap[i]? = w.heap[i]? := by
        intro i hi hib
        rw [hheap, Array.getElem?_append_left (by simpa using hi), Array.getElem?_modify, if_neg (Ne.symm hib)]
       have hWb : (sortWorldK encK 21 w b 0 m l.toArray os).heap[b]? = some (.cells (putCells id 0 F cs) 39 fr) := by
        rw [hheap, Array.getElem?_append_left (by simpa using hb), Array.getElem?_modify, if_pos rfl, c2]; rfl
       have hWs : w.heap.size ≤ (sortWorldK encK 21 w b 0 m l.toArray os).heap.size := by rw [hheap]; simp
       have hWo : (sortWorldK encK 21 w b 0 m l.toArray os).os = w.os := rfl
       have hWu : (sortWorldK encK 21 w b 0 m l.toArray os).output = w.output := rfl
       have hWt : (sortWorldK encK 21 w b 0 m l.toArray os).tape = w.tape := rfl
       have hWd : w.drawn ≤ (sortWorldK encK 21 w b 0 m l.toArray os).drawn := Nat.le_add_right _ _
       generalize sortWorldK encK 21 w b 0 m l.toArray os = w' at *
       have hup : ∀ x c, updF [(0, some (.seq 39 (sortK es)))] (HpL.get [(0, Chunk.seq 39 es)]) x = some c → x = 0 ∧ c = .seq 39 (sortK es) := by
        intro x c hx
        simp only [updF] at hx
        by_cases h0 : x = 0
        · rw [if_pos h0] at hx; cases hx; exact ⟨h0, rfl⟩
        · rw [if_neg h0] at hx; exact absurd (hpl1 hx).1 h0
       have hnI : ¬ Im b := (hH.own 0 _ b N hget a1).1
       have hIm : ∀ a, Im a → Im a ∧ w'.heap[a]? = w.heap[a]? := fun a ha => ⟨ha, hW a (hH.im a ha) (fun e => hnI (e ▸ ha))⟩
       refine ⟨_, θ, Im, rfl, ?_, .tup rfl (fun i v u a => by simp at a), ?_⟩
       · refine { thOld := fun _ _ => rfl, thUp := fun _ _ h => h, imUp := fun _ h => h, size := hWs, keep := fun i hi hno => hW i hi (fun e => hno 0 _ N hget (e ▸ a1)), os := hWo, output := hWu, tape := hWt, drawn := hWd, imNew := fun _ h => .inl h, ownNew := fun x c q M hx ht => ?_ }
         obtain ⟨rfl, -⟩ := hup x c hx
         exact .inl ⟨0, _, M, hget, ht⟩
       · refine ⟨fun x c hx => ?_, fun x y c c' q M M' hx hy _ _ => by rw [(hup x c hx).1, (hup y c' hy).1], fun x c q M hx ht => ?_, fun q hq => Nat.lt_of_lt_of_le (hH.im q hq) hWs, hH.gl.mono hIm⟩
         · obtain ⟨rfl, rfl⟩ := hup x c hx
           have hps : (putCells id 0 F cs).size = cs.size := by simp [putCells]
           refine .inr ⟨b, N, putCells id 0 F cs, 39, fr, fun i => .agg (encK l.toArray[i]!).toArray, a1, hWb, by rw [hps]; exact c3, ⟨by rw [hps]; exact c4, rfl⟩, by rw [sortK_len, cells39]; exact c6, fun v hv => c7 v ((List.mergeSort_perm _ _).mem_iff.1 hv), fun i v hv => ?_⟩
           have hi : i < es.length := by
            have := (List.getElem?_eq_some_iff.1 hv).1; rwa [sortK_len] at this
           have hlv : (l.toArray[i]!).1 = v := by
            rw [← hd', List.getElem?_map, List.getElem?_eq_getElem (by omega)] at hv
            rw [getElem!_pos l.toArray i (by simpa [hll] using hi)]
            simpa using hv
           refine ⟨?_, ?_, fun j c hj => ?_⟩
           · have hk := (l.toArray[i]!).2
             have := vr_agg (P := Try.prog) (w := w') (Im := Im) (ω := om0) (θ := noTh) (cs_scal (nE (l.toArray[i]!).1))
             rw [← hlv]
             rw [← hk.1] at this
             exact this
           · rw [cells39]; exact (List.size_toArray ..).trans (encK_len _)
           · have hj' : j < 21 := by
               have := (Array.getElem?_eq_some_iff.1 hj).1
               rw [show (Value.agg (encK l.toArray[i]!).toArray).cells.size = 21 from (List.size_toArray ..).trans (encK_len _)] at this
               exact this
             have hlt : i * 21 + j < es.length * 21 := by omega
             have hlc : i * 21 + j < cs.size := by omega
             rw [cells39]
             unfold putCells
             rw [Array.getElem?_mapIdx, Array.getElem?_eq_getElem hlc]
             simp only [Option.map_some, Nat.zero_le, true_and, Nat.zero_add, Nat.sub_zero, hFs, if_pos hlt, id, hFg _ hlt]
             rw [show (i * 21 + j) / 21 = i by omega, show (i * 21 + j) % 21 = j by omega]
             rw [← hj]
             show _ = ((encK l.toArray[i]!).toArray)[j]?
             rw [List.getElem?_toArray, List.getElem?_eq_getElem (by rw [encK_len]; exact hj'), getElem!_pos (encK l.toArray[i]!) j (by rw [encK_len]; exact hj')]
         · obtain ⟨rfl, -⟩ := hup x c hx
           obtain ⟨g1, g2⟩ := hH.own 0 _ q M hget ht
           exact ⟨g1, Nat.lt_of_lt_of_le g2 hWs⟩
end Go.Proofs.Ytkbbiaobohlogaa
/- What is advertised: keys sorted, in whatever order they lay. -/
namespace Go.Proofs.Ytkbbiaobohlogaa
open Go.Am
set_option maxRecDepth 100000
theorem sortK_perm {es es' : List SV} (hp : es.Perm es') (hk : ∀ s ∈ es, KyOk s) : sortK es = sortK es' := by
 have tr : ∀ a b c : SV, (!decide (cf b a < 0)) = true → (!decide (cf c b < 0)) = true → (!decide (cf c a < 0)) = true := by
  intro a b c h1 h2
  simp only [Bool.not_eq_true', decide_eq_false_iff_not] at *
  exact cf_ntrans h2 h1
 have to : ∀ a b : SV, ((!decide (cf b a < 0)) || (!decide (cf a b < 0))) = true := by
  intro a b
  have := cf_anti a b
  simp only [Bool.or_eq_true, Bool.not_eq_true', decide_eq_false_iff_not]
  omega
 refine List.Perm.eq_of_pairwise (le := fun a b => (!decide (cf b a < 0)) = true) (fun a b ha hb h1 h2 => ?_) (List.pairwise_mergeSort tr to es) (List.pairwise_mergeSort tr to es') (((List.mergeSort_perm es _).trans hp).trans (List.mergeSort_perm es' _).symm)
 have a1 := hk a ((List.mergeSort_perm es _).mem_iff.1 ha)
 have a2 := hk b (hp.mem_iff.2 ((List.mergeSort_perm es' _).mem_iff.1 hb))
 simp only [Bool.not_eq_true', decide_eq_false_iff_not] at h1 h2
 have := cf_anti a b
 exact cf_key a1 a2 (by omega)
noncomputable def sortU_s : CSumm := fun args H => match args, H with
 | [.qs 0 21 0 n, .fn (.func 40) [] []], [(0, .ext (.sqm 39 es))] => .ite (dec (srOk es n)) (.ret (.tup []) [(0, some (.seq 39 (sortK es)))]) .fail
 | _, _ => .fail
theorem canon1 {c : Chunk} : Canon [(0, c)] := by
 intro i p h
 match i, h with
 | 0, h => cases h; rfl
 | n + 1, h => simp at h
theorem sortU_k : Known Try.prog 51 sortU_s := known_pickH sort_k (by
 intro args H v ups' h hc ω w Im θ hH
 unfold sortU_s at h
 split at h
 · rename_i n es
   rw [crun_ite] at h
   cases hd : dec (srOk es n) with
   | false => rw [hd] at h; cases h
   | true =>
    rw [hd, cond_true] at h
    cases h
    obtain ⟨h1, h2, h3⟩ := dec_iff.1 hd
    obtain ⟨es', hp, hq⟩ := hH.at_ 0 (.ext (.sqm 39 es)) rfl
    refine ⟨[(0, .seq 39 es')], [(0, some (.seq 39 (sortK es)))], ?_, canon1, rfl, hH.one hq, fun x c hx => ?_, fun x c' hx => ?_⟩
    · show crun (.ite (dec _) _ _) = _
      rw [crun_ite, dec_iff.2 ⟨h1.trans hp.length_eq, by rw [← hp.length_eq]; exact h2, fun s hs => h3 s (hp.mem_iff.2 hs)⟩, cond_true, sortK_perm hp h3]
      rfl
    · obtain ⟨rfl, rfl⟩ := hpl1 hx
      exact ⟨_, rfl⟩
    · simp only [updF] at hx ⊢
      by_cases h0 : x = 0
      · rw [if_pos h0] at hx ⊢; cases hx; exact ⟨_, rfl, fun _ _ _ _ h => h⟩
      · rw [if_neg h0] at hx; exact absurd (hpl1 hx).1 h0
 · cases h)
noncomputable abbrev κas := tbl [(62, asq_s), (51, sortU_s)]
theorem okas : KOk Try.prog κas := tbl_cons asq_k (tbl_cons sortU_k ok0)
theorem a21_t (bs : List Nat) (cl : Nat) (ks vs : List SV) : opn κas Try.f21 [.mp 0] [(0, .ext (.mpo 39 48 bs cl ks vs))] =
 gd (dec (apOk bs cl ks)) (gd (dec (srOk ks ks.length)) (.ret (.qs 1 21 0 ks.length) [(1, some (.seq 39 (sortK ks)))])) := by kernel_rfl
theorem a23_t (bs : List Nat) (cl : Nat) (ks vs : List SV) : opn κas Try.f23 [.mp 0] [(0, .ext (.mpo 39 65 bs cl ks vs))] =
 gd (dec (apOk bs cl ks)) (gd (dec (srOk ks ks.length)) (.ret (.qs 1 21 0 ks.length) [(1, some (.seq 39 (sortK ks)))])) := by kernel_rfl
end Go.Proofs.Ytkbbiaobohlogaa
