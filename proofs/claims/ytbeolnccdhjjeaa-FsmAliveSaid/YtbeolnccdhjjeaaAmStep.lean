/- The abstract machine: one operation, whichever. -/
import Derived.Test.YtbeolnccdhjjeaaAmEq
import Derived.Test.YtbeolnccdhjjeaaAmIdx
import Derived.Laws.MakeOwn
namespace Go.Am
variable {P : Program} {ω : Nat → Value}

theorem run_eqGuard_skip {op : BinOp} {t : TypeId} {x y : Operand} {a b : Value} {w : World} (h1 : ¬ (a = .nilIface ∧ b = .nilIface)) (h2 : ∀ xs ys, ¬ (a = .agg xs ∧ b = .agg ys)) :
    (eqGuard op t x y a b).run P w = .ok () w := by
  cases op <;> first
    | rfl
    | (simp only [eqGuard, Bool.not_true, Bool.false_eq_true, if_false]
       split
       · exact absurd ⟨rfl, rfl⟩ h1
       · exact absurd ⟨rfl, rfl⟩ (h2 _ _)
       · rfl)

theorem isEq_some {op : BinOp} {b : Bool} (h : isEq op = some b) : (b = true ∧ op = .eql) ∨ (b = false ∧ op = .neq) := by
  cases op <;> simp [isEq] at h <;> simp [h]

/-- What stays of a bare value. -/
theorem mrun_done {h : HpF} {r r' : SV} {ups ups' : List (Nat × Option Chunk)} {nx nx' : Nat} {rs : List Nat} (hm : mrun h (.done r' ups' nx') = some (r, ups, nx, rs)) : r' = r ∧ ups' = ups ∧ nx' = nx ∧ rs = [] := by
  simpa [mrun, eq_comm] using hm

theorem intBin_run {op : BinOp} {k : IntKind} {a b : Int} {h : HpF} {nx nx' : Nat} {r : SV} {ups : List (Nat × Option Chunk)} {rs : List Nat} {t : TypeId} {w : World} {Im : Nat → Prop} {θ : Th} (hop : op ≠ .shl ∧ op ≠ .shr)
    (hm : mrun h (intBin op k a b .fail nx) = some (r, ups, nx', rs)) : ∃ v, (binOp op t (.int k a) (.int k b)).run P w = .ok v w ∧ VRel P ω w Im θ r v ∧ ups = [] ∧ nx' = nx := by
  cases op <;> simp only [intBin] at hm <;> first
    | (obtain ⟨rfl, rfl, rfl, _⟩ := mrun_done (h := h) hm; refine ⟨_, ?_, .int, rfl, rfl⟩; simp [binOp, Op.intArith, Op.intBits]; done)
    | (obtain ⟨rfl, rfl, rfl, _⟩ := mrun_done (h := h) hm; refine ⟨_, ?_, .bool, rfl, rfl⟩; simp [binOp, Op.intCmp]; done)
    | (simp only [mrun] at hm
       split at hm
       · simp at hm
       · rename_i hb
         obtain ⟨rfl, rfl, rfl, _⟩ := mrun_done (h := h) hm
         have hb' : ¬ b = 0 := by simpa using hb
         refine ⟨_, ?_, .int, rfl, rfl⟩
         simp [binOp, Op.intDiv, hb'])
    | (simp [mrun] at hm; done)
    | (exact absurd rfl hop.1)
    | (exact absurd rfl hop.2)

theorem shift_run {op : BinOp} {k k' : IntKind} {a b : Int} {h : HpF} {nx nx' : Nat} {r : SV} {ups : List (Nat × Option Chunk)} {rs : List Nat} {t : TypeId} {w : World} {Im : Nat → Prop} {θ : Th}
    (hm : mrun h (shiftS op k a b nx) = some (r, ups, nx', rs)) : ∃ v, (binOp op t (.int k a) (.int k' b)).run P w = .ok v w ∧ VRel P ω w Im θ r v ∧ ups = [] ∧ nx' = nx := by
  unfold shiftS at hm
  cases op <;> simp only [] at hm <;> first
    | (simp [mrun] at hm; done)
    | (simp only [mrun] at hm
       split at hm
       · simp at hm
       · rename_i hb
         obtain ⟨rfl, rfl, rfl, _⟩ := mrun_done (h := h) hm
         have hb' : ¬ b < 0 := by simpa using hb
         refine ⟨_, ?_, .int, rfl, rfl⟩
         simp [binOp, Op.shift, hb'])

theorem ba_append (s t : ByteArray) : (s ++ t).data.toList = s.data.toList ++ t.data.toList := by simp [ByteArray.data_append]

theorem str_run {op : BinOp} {a b : List UInt8} {s s' : ByteArray} (hs : s.data.toList = a) (hs' : s'.data.toList = b) {h : HpF} {nx nx' : Nat} {r : SV} {ups : List (Nat × Option Chunk)} {rs : List Nat} {t : TypeId} {w : World} {Im : Nat → Prop} {θ : Th}
    (hm : mrun h (strBin op a b nx) = some (r, ups, nx', rs)) : ∃ v, (binOp op t (.string s) (.string s')).run P w = .ok v w ∧ VRel P ω w Im θ r v ∧ ups = [] ∧ nx' = nx := by
  have e1 : s.toList = a := by rw [ByteArray.toList_eq, hs]
  have e2 : s'.toList = b := by rw [ByteArray.toList_eq, hs']
  unfold strBin at hm
  cases op <;> simp only [] at hm <;> first
    | (simp [mrun] at hm; done)
    | (obtain ⟨rfl, rfl, rfl, _⟩ := mrun_done (h := h) hm
       refine ⟨_, ?_, .bool, rfl, rfl⟩
       simp [binOp, Op.stringOp, e1, e2])
    | (simp only [mrun] at hm
       split at hm
       · rename_i hb
         obtain ⟨rfl, rfl, rfl, _⟩ := mrun_done (h := h) hm
         have hl : s.size = a.length := by rw [← hs]; simp
         have hl' : s'.size = b.length := by rw [← hs']; simp
         have hb' : ¬ (((s.size + s'.size : Nat) : Int) > IntKind.i64.max) := by
           have : IntKind.i64.max = 9223372036854775807 := by decide
           rw [this, hl, hl']
           have := of_decide_eq_true hb
           omega
         refine ⟨.string (s ++ s'), ?_, .str (by rw [ba_append, hs, hs']), rfl, rfl⟩
         simp only [binOp, Op.stringOp]
         rw [if_neg hb']
         rfl
       · simp at hm)

/-- An operation that leaves the world alone. -/
theorem good_of {o : Oper} {a : Act} {w : World} {Im : Nat → Prop} {θ : Th} {h : HpF} {r : SV} {ups : List (Nat × Option Chunk)} {nx nx' : Nat} (hr : HRel P ω w Im θ h) (s : Sem Value) (hs : (execOp a.eval o).run P w = ((do pure (Next.value (← s)) : Sem Next)).run P w)
    (hx : ∃ v, s.run P w = .ok v w ∧ VRel P ω w Im θ r v ∧ ups = [] ∧ nx' = nx) : Good P ω o a w Im θ h r ups nx nx' := by
  obtain ⟨v, h1, h2, rfl, rfl⟩ := hx
  refine good_value hr ?_ h2
  rw [hs]
  simp [h1]


theorem equal_succ (t : TypeId) (x y : Value) : Op.equal t x y = Op.equalIn (9999 + 1) t x y := rfl

theorem psl_some {w : World} {Im : Nat → Prop} {θ : Th} {e : TypeId} {v : SV} {es : List SV} {u : Value} (h : VRel P ω w Im θ (.psl e (v :: es)) u) : ∃ a n cap, u = .slice (some a) n cap := by
  cases h with
  | psl us h1 h0 h2 h3 h4 =>
    obtain ⟨a, off, rfl, _⟩ := h4 (by rw [← h1]; simp)
    exact ⟨_, _, _, rfl⟩

theorem nilEq_run {w : World} {Im : Nat → Prop} {θ : Th} {t : TypeId} {x y : SV} {u v : Value} {b : Bool} (h : nilEq P t x y = some b) (hx : VRel P ω w Im θ x u) (hy : VRel P ω w Im θ y v) :
    (Op.equal t u v).run P w = .ok b w ∧ ¬ (u = .nilIface ∧ v = .nilIface) ∧ (∀ xs ys, ¬ (u = .agg xs ∧ v = .agg ys)) ∧
      (binOp .eql t u v = (do pure (.bool (← Op.equal t u v)))) ∧ (binOp .neq t u v = (do pure (.bool (!(← Op.equal t u v))))) := by
  unfold nilEq at h
  split at h <;> first | (cases h; done) | skip
  all_goals
    (rename_i hu)
    (simp only [Option.some.injEq] at h)
    (subst h)
    (try (obtain ⟨_, _, _, rfl⟩ := psl_some hx; clear hx))
    (try (obtain ⟨_, _, _, rfl⟩ := psl_some hy; clear hy))
    (try cases hx)
    (try cases hy)
    (refine ⟨?_, by simp, by simp, rfl, rfl⟩)
    (rw [equal_succ]; generalize (9999 : Nat) = d; simp only [Op.equalIn, Sem.run_bind, run_underlying hu, Result.andThen_ok, Sem.run_pure, Option.isNone])


theorem zipIdx_fill : ∀ (vs : List Value) (off i : Nat) (cur : Array Value), off + i + vs.length ≤ cur.size →
    ((vs.zipIdx i).foldl (fun cs (c, j) => cs.setIfInBounds (off + j) c) cur).toList = cur.toList.take (off + i) ++ vs ++ cur.toList.drop (off + i + vs.length)
  | [], off, i, cur, _ => by simp
  | v :: vs, off, i, cur, h => by
    simp only [List.zipIdx_cons, List.foldl_cons]
    rw [zipIdx_fill vs off (i + 1) (cur.setIfInBounds (off + i) v) (by simp at h ⊢; omega)]
    have e := list_seg_step cur.toList (off + i) v vs (by simp at h ⊢; omega)
    simpa [Array.toList_setIfInBounds, Nat.add_assoc] using e

theorem fill_rel {w : World} {Im : Nat → Prop} {θ : Th} {place : Nat → Option (Nat × Nat)} : ∀ (ps : List (Nat × SV)) (qs : List (Nat × Value)) (cs cs' : List SV) (us : Array Value),
    ps.length = qs.length → (∀ (i : Nat) p q, ps[i]? = some p → qs[i]? = some q → p.1 = q.1 ∧ VRel P ω w Im θ p.2 q.2) → LRel P ω w Im θ cs us.toList → fillS place cs ps = some cs' →
    ∃ us', Instr.fill place us qs = some us' ∧ LRel P ω w Im θ cs' us'.toList
  | [], [], cs, cs', us, _, _, hl, h => by
    simp [fillS] at h; subst h
    exact ⟨us, rfl, hl⟩
  | [], _ :: _, _, _, _, h, _, _, _ => by simp at h
  | _ :: _, [], _, _, _, h, _, _, _ => by simp at h
  | (i, v) :: ps, (j, u) :: qs, cs, cs', us, hlen, hat, hl, h => by
    have h0 := hat 0 (i, v) (j, u) rfl rfl
    obtain ⟨rfl, hv⟩ := h0
    simp only [fillS] at h
    cases hp : place i with
    | none => simp [hp] at h
    | some pr =>
      obtain ⟨off, size⟩ := pr
      cases hc : cellsS v with
      | none => simp [hp, hc] at h
      | some vs =>
        simp only [hp, hc] at h
        cases hb : Nat.beq vs.length size with
        | false => simp [hb] at h
        | true =>
          simp only [hb, cond_true] at h
          cases hs : splice cs off vs with
          | none => simp [hs] at h
          | some cs1 =>
            simp only [hs] at h
            obtain ⟨hle, rfl⟩ := splice_spec _ _ _ _ hs
            have hvr := cells_rel hv hc
            have hsz : vs.length = size := Nat.eq_of_beq_eq_true hb
            have hul : u.cells.size = vs.length := by have := hvr.len; simp at this; omega
            have hll := hl.len
            simp at hll
            have hfill := zipIdx_fill u.cells.toList off 0 us (by simp; omega)
            obtain ⟨us', h1, h2⟩ := fill_rel ps qs _ cs' (u.cells.zipIdx.foldl (fun cs (c, j) => cs.setIfInBounds (off + j) c) us) (by simpa using hlen)
              (fun k p q hp hq => hat (k + 1) p q (by simpa using hp) (by simpa using hq)) (by
                have e : (u.cells.zipIdx.foldl (fun cs (c, j) => cs.setIfInBounds (off + j) c) us).toList = us.toList.take off ++ u.cells.toList ++ us.toList.drop (off + vs.length) := by
                  rw [← Array.foldl_toList, Array.toList_zipIdx]
                  rw [hfill]; simp [hul]
                rw [e]
                exact ((hl.takeL off).append hvr).append (hl.dropL _)) h
            refine ⟨us', ?_, h2⟩
            simp only [Instr.fill, hp]
            rw [if_neg (by simp; omega)]
            exact h1

theorem run_places {fs : List Field} (h : ∀ f ∈ fs, knownT P f.type = true) (w : World) : (fs.mapM (fun f => Prod.mk f.offset <$> sizeOf f.type : Field → Sem (Nat × Nat))).run P w = .ok (fs.map fun f => (f.offset, P.cellsOf f.type)) w := by
  induction fs with
  | nil => rfl
  | cons f fs ih =>
    have hf := h f (by simp)
    unfold knownT at hf
    cases hi : P.info? f.type with
    | none => simp [hi] at hf
    | some i => simp [run_sizeOf' hi, ih (fun g hg => h g (by simp [hg]))]

theorem build_run {w : World} {Im : Nat → Prop} {θ : Th} {h : HpF} {t : TypeId} {ps : List (Nat × SV)} {qs : Array (Nat × Value)} {nx nx' : Nat} {r : SV} {ups : List (Nat × Option Chunk)} {rs : List Nat}
    (hlen : ps.length = qs.size) (hat : ∀ (i : Nat) p q, ps[i]? = some p → qs[i]? = some q → p.1 = q.1 ∧ VRel P ω w Im θ p.2 q.2) (hm : mrun h (buildS P t ps nx) = some (r, ups, nx', rs)) :
    ∃ v, (Instr.build t qs).run P w = .ok v w ∧ VRel P ω w Im θ r v ∧ ups = [] ∧ nx' = nx := by
  unfold buildS at hm
  cases hbo : buildOk P t with
  | false => simp [hbo, mrun] at hm
  | true =>
    simp only [hbo, cond_true] at hm
    split at hm
    · rename_i zs hz
      split at hm
      · rename_i cs hcs
        obtain ⟨rfl, rfl, rfl, _⟩ := mrun_done hm
        unfold zeroS at hz
        cases hi : P.info? t with
        | none => simp [hi] at hz
        | some i =>
          cases hzi : i.zero with
          | none => simp [hi, hzi] at hz
          | some zv =>
            simp only [hi, hzi, Option.some.injEq] at hz
            have hzr := ofValue_rel (P := P) (ω := ω) w Im θ zv
            rw [hz] at hzr
            generalize hzv : zv = zv' at hzr
            cases hzr with
            | agg h1 h2 =>
              rename_i zus
              have hl : LRel P ω w Im θ zs zus.toList := ⟨by simpa using h1, fun i v u hv hu => h2 i v u hv (by simpa using hu)⟩
              have hat' : ∀ (i : Nat) p q, ps[i]? = some p → qs.toList[i]? = some q → p.1 = q.1 ∧ VRel P ω w Im θ p.2 q.2 := fun i p q hp hq => hat i p q hp (by simpa using hq)
              obtain ⟨us', hf, hl'⟩ := fill_rel ps qs.toList zs cs zus (by simpa using hlen) hat' hl hcs
              refine ⟨.agg us', ?_, .agg (by simpa using hl'.len) (fun i v u hv hu => hl'.at_ i v u hv (by simpa using hu)), rfl, rfl⟩
              unfold buildOk at hbo
              unfold Instr.build
              cases hu : P.underlying t with
              | none => simp [hu] at hbo
              | some d =>
                simp only [hu] at hbo
                cases d <;> simp only [] at hbo <;> try (cases hbo; done)
                · rename_i n e
                  have hpl : (placeOf P t) = fun i => some (i * P.cellsOf e, P.cellsOf e) := by funext i; simp [placeOf, hu]
                  rw [hpl] at hf
                  unfold knownT at hbo
                  cases hie : P.info? e with
                  | none => simp [hie] at hbo
                  | some ie => simp [zeroValue, typeInfo, hi, hzi, hzv, run_underlying hu, run_sizeOf' hie, Value.cells, hf]
                · rename_i fs
                  have hpl : (placeOf P t) = fun i => (fs.map fun f => (f.offset, P.cellsOf f.type))[i]? := by
                    funext i; simp only [placeOf, hu, Array.getElem?_map]; cases fs[i]? <;> rfl
                  rw [hpl] at hf
                  simp only [Array.getElem?_map] at hf
                  have hp := run_places (P := P) (fs := fs.toList) (fun f hf => List.all_eq_true.1 hbo f hf) w
                  simp [zeroValue, typeInfo, hi, hzi, hzv, run_underlying hu, Value.cells, Array.mapM_eq_mapM_toList, hp, hf]
      · simp [mrun] at hm
    · simp [mrun] at hm

theorem fillS_len {place : Nat → Option (Nat × Nat)} : ∀ (ps : List (Nat × SV)) (cs cs' : List SV), fillS place cs ps = some cs' → cs'.length = cs.length
  | [], cs, cs', h => by simp [fillS] at h; rw [h]
  | (i, v) :: ps, cs, cs', h => by
    simp only [fillS] at h
    cases hp : place i with
    | none => simp [hp] at h
    | some pr =>
      obtain ⟨off, size⟩ := pr
      cases hc : cellsS v with
      | none => simp [hp, hc] at h
      | some vs =>
        simp only [hp, hc] at h
        cases hb : Nat.beq vs.length size with
        | false => simp [hb] at h
        | true =>
          simp only [hb, cond_true] at h
          cases hs : splice cs off vs with
          | none => simp [hs] at h
          | some cs1 =>
            simp only [hs] at h
            obtain ⟨hle, rfl⟩ := splice_spec _ _ _ _ hs
            rw [fillS_len ps _ _ h]
            simp
            omega
theorem repL_get {α : Type} (zs : List α) : ∀ (n i : Nat), i < n * zs.length → (repL n zs)[i]? = zs[i % zs.length]?
  | 0, i, h => by simp at h
  | n + 1, i, h => by
    simp only [repL]
    rcases Nat.lt_or_ge i zs.length with h1 | h1
    · rw [List.getElem?_append_left h1, Nat.mod_eq_of_lt h1]
    · rw [List.getElem?_append_right h1, repL_get zs n (i - zs.length) (by rw [Nat.succ_mul] at h; omega)]
      rw [← Nat.mod_eq_sub_mod h1]
theorem rep_rel {w : World} {Im : Nat → Prop} {θ : Th} {zs : List SV} {zc : Array Value} (hl : LRel P ω w Im θ zs zc.toList) (h0 : zs.length ≠ 0) (n : Nat) : LRel P ω w Im θ (repL n zs) ((Array.range (n * zs.length)).map (zc[· % zc.size]!)).toList := by
  have hsz : zc.size = zs.length := by have := hl.len; simp at this; omega
  refine ⟨by simp [repL_len], fun i v u hv hu => ?_⟩
  have hi : i < n * zs.length := by
    have := (List.getElem?_eq_some_iff.1 hv).1
    rwa [repL_len] at this
  rw [repL_get zs n i hi] at hv
  refine hl.at_ _ v u hv ?_
  simp only [Array.getElem?_toList, Array.getElem?_map] at hu
  have hm : i % zs.length < zs.length := Nat.mod_lt _ (by omega)
  have e : (Array.range (n * zs.length))[i]? = some i := by simp [hi]
  rw [e, hsz] at hu
  simp only [Option.map_some, Option.some.injEq] at hu
  have hm' : i % zs.length < zc.size := by omega
  rw [getElem!_pos zc _ hm'] at hu
  simp [hm', hu]
theorem build_slice_run {w : World} {Im : Nat → Prop} {θ : Th} {h : HpF} {t : TypeId} {n : Nat} {ps : List (Nat × SV)} {qs : Array (Nat × Value)} {nx nx' : Nat} {r : SV} {ups : List (Nat × Option Chunk)} {rs : List Nat}
    (hlen : ps.length = qs.size) (hat : ∀ (i : Nat) p q, ps[i]? = some p → qs[i]? = some q → p.1 = q.1 ∧ VRel P ω w Im θ p.2 q.2) (hm : mrun h (buildSliceS P t n ps nx) = some (r, ups, nx', rs)) :
    ∃ (us : Array Value) (cs : List SV) (e : TypeId), (Instr.buildSlice t n qs).run P w = .ok (.slice (some ⟨w.heap.size, 0, none⟩) n n) (w.alloc (.cells us e)) ∧ LRel P ω w Im θ cs us.toList ∧ cs.length = n * P.cellsOf e ∧ r = .sl nx (P.cellsOf e) 0 n ∧ ups = [(nx, some (.cells e cs))] ∧ nx' = nx + 1 := by
  unfold buildSliceS at hm
  split at hm
  · rename_i e hu
    cases hk : knownT P e && Nat.ble (n * P.cellsOf e) 16777216 && !(Nat.beq (P.cellsOf e) 0) with
    | false => rw [hk] at hm; simp [mrun] at hm
    | true =>
      rw [hk] at hm
      simp only [cond_true] at hm
      simp only [Bool.and_eq_true, Bool.not_eq_true'] at hk
      obtain ⟨⟨k1, k2⟩, k3⟩ := hk
      have hle : n * P.cellsOf e ≤ 16777216 := by rwa [Nat.ble_eq] at k2
      have hne : P.cellsOf e ≠ 0 := fun hh => by rw [nb_t hh] at k3; cases k3
      split at hm
      · rename_i z hz
        split at hm
        · rename_i zs hzs
          cases hb : Nat.beq zs.length (P.cellsOf e) with
          | false => rw [hb] at hm; simp [mrun] at hm
          | true =>
            rw [hb] at hm
            simp only [cond_true] at hm
            have hzl : zs.length = P.cellsOf e := Nat.eq_of_beq_eq_true hb
            split at hm
            · rename_i cs hcs
              obtain ⟨rfl, rfl, rfl, _⟩ := mrun_done hm
              unfold zeroS at hz
              cases hi : P.info? e with
              | none => simp [hi] at hz
              | some i =>
                cases hzi : i.zero with
                | none => simp [hi, hzi] at hz
                | some zv =>
                  simp only [hi, hzi, Option.some.injEq] at hz
                  subst hz
                  have hl := cells_rel (ofValue_rel (P := P) (ω := ω) w Im θ zv) hzs
                  have hrep := rep_rel hl (by omega) n
                  obtain ⟨us', hf, hl'⟩ := fill_rel ps qs.toList _ cs _ (by simpa using hlen) (fun i p q hp hq => hat i p q hp (by simpa using hq)) hrep hcs
                  refine ⟨us', cs, e, ?_, hl', ?_, rfl, rfl, rfl⟩
                  · rw [hzl] at hf
                    unfold Instr.buildSlice
                    have hn : ¬ (n * P.cellsOf e > 2 ^ 24) := by omega
                    by_cases h0 : n * P.cellsOf e = 0
                    · have : n = 0 := by
                        rcases Nat.mul_eq_zero.1 h0 with h | h
                        · exact h
                        · exact absurd h hne
                      subst this
                      simp only [Nat.zero_mul] at hf
                      have e0 : ∀ f : Nat → Value, (Array.range 0).map f = #[] := fun f => by simp
                      rw [e0] at hf
                      simp only [Sem.run_bind, run_underlying hu, Result.andThen_ok, run_sizeOf' hi, Nat.zero_mul, newRow]
                      simp [e0, hf]
                    · simp [run_underlying hu, run_sizeOf' hi, hn, h0, zeroValue, typeInfo, hi, hzi, newRow, hf]
                  · rw [fillS_len _ _ _ hcs, repL_len, hzl]
            · simp [mrun] at hm
        · simp [mrun] at hm
      · simp [mrun] at hm
  · simp [mrun] at hm

theorem make_slice_run {w : World} {Im : Nat → Prop} {θ : Th} {h : HpF} {t : TypeId} {l c : SV} {ul uc : Value} {nx nx' : Nat} {r : SV} {ups : List (Nat × Option Chunk)} {rs : List Nat}
    (hm : mrun h (makeSliceS P t l c nx) = some (r, ups, nx', rs)) (hl : VRel P ω w Im θ l ul) (hc : VRel P ω w Im θ c uc) :
    ∃ (us : Array Value) (cs : List SV) (e : TypeId) (n k : Nat), (Instr.makeSlice t ul uc).run P w = .ok (.slice (some ⟨w.heap.size, 0, none⟩) n k) (w.alloc (.cells us e)) ∧ LRel P ω w Im θ cs us.toList ∧ cs.length = k * P.cellsOf e ∧ n ≤ k ∧ r = .sl nx (P.cellsOf e) 0 n ∧ ups = [(nx, some (.cells e cs))] ∧ nx' = nx + 1 := by
  unfold makeSliceS at hm
  split at hm
  · rename_i e kl a kc b hu
    cases hl
    cases hc
    split at hm
    · rename_i i hi
      split at hm
      · rename_i z hz
        split at hm
        · rename_i zs hzs
          cases hb : Nat.beq zs.length (P.cellsOf e) && !(Nat.beq (P.cellsOf e) 0) with
          | false => rw [hb] at hm; simp [mrun] at hm
          | true =>
            rw [hb] at hm
            simp only [cond_true] at hm
            simp only [Bool.and_eq_true, Bool.not_eq_true'] at hb
            have hzl : zs.length = P.cellsOf e := Nat.eq_of_beq_eq_true hb.1
            have hne : P.cellsOf e ≠ 0 := fun hh => by rw [nb_t hh] at hb; cases hb.2
            cases hd : decide (0 ≤ a) && decide (a ≤ b) && decide (b ≤ 16777216) && decide (b * (P.cellsOf e : Int) ≤ 16777216) && decide ((i.bytes : Int) * b ≤ 281474976710656) with
            | false => rw [hd] at hm; simp [mrun] at hm
            | true =>
              rw [hd] at hm
              simp only [mrun, if_true, Option.some.injEq, Prod.mk.injEq] at hm
              obtain ⟨rfl, rfl, rfl, _⟩ := hm
              simp only [Bool.and_eq_true, decide_eq_true_eq] at hd
              obtain ⟨⟨⟨⟨d1, d2⟩, d3⟩, d4⟩, d5⟩ := hd
              unfold zeroS at hz
              simp only [hi] at hz
              cases hzi : i.zero with
              | none => simp [hzi] at hz
              | some zv =>
                simp only [hzi, Option.some.injEq] at hz
                subst hz
                have hlz := cells_rel (ofValue_rel (P := P) (ω := ω) w Im θ zv) hzs
                have hrep := rep_rel hlz (by omega) b.toNat
                have hsize : i.size = P.cellsOf e := by unfold Program.cellsOf; rw [hi]; rfl
                have hcells : b.toNat * i.size ≤ 16777216 := by
                  rw [hsize]
                  have : ((b.toNat * P.cellsOf e : Nat) : Int) ≤ 16777216 := by
                    push_cast
                    rw [Int.toNat_of_nonneg (by omega)]
                    exact d4
                  omega
                have hrun := run_makeSlice (w := w) t e i zv hu hi hzi kl kc a b d1 d2 hcells d5 (by omega)
                refine ⟨_, _, e, a.toNat, b.toNat, hrun, ?_, ?_, by omega, rfl, rfl, rfl⟩
                · rw [hsize, ← hzl]; exact hrep
                · rw [repL_len, hzl]
        · simp [mrun] at hm
      · simp [mrun] at hm
    · simp [mrun] at hm
  · simp [mrun] at hm

theorem binS_run {op : BinOp} {t : TypeId} {x y : SV} {u v : Value} {h : HpF} {nx nx' : Nat} {r : SV} {ups : List (Nat × Option Chunk)} {rs : List Nat} {w : World} {Im : Nat → Prop} {θ : Th} {ox oy : Operand}
    (hx : VRel P ω w Im θ x u) (hy : VRel P ω w Im θ y v) (hm : mrun h (binS P op t x y nx) = some (r, ups, nx', rs)) :
    ∃ z, ((do pure (Next.value (← (do eqGuard op t ox oy u v; binOp op t u v)))) : Sem Next).run P w = .ok (.value z) w ∧ VRel P ω w Im θ r z ∧ ups = [] ∧ nx' = nx := by
  have lift : ∀ (hg : (eqGuard op t ox oy u v).run P w = .ok () w) (hb : ∃ z, (binOp op t u v).run P w = .ok z w ∧ VRel P ω w Im θ r z ∧ ups = [] ∧ nx' = nx),
      ∃ z, ((do pure (Next.value (← (do eqGuard op t ox oy u v; binOp op t u v)))) : Sem Next).run P w = .ok (.value z) w ∧ VRel P ω w Im θ r z ∧ ups = [] ∧ nx' = nx := by
    rintro hg ⟨z, h1, h2⟩
    exact ⟨z, by simp [hg, h1], h2⟩
  unfold binS at hm
  split at hm
  · rename_i k a k' b
    cases hx; cases hy
    refine lift (run_eqGuard_skip (by simp) (by simp)) ?_
    by_cases hs : op = .shl ∨ op = .shr
    · have hm' : mrun h (shiftS op k a b nx) = some (r, ups, nx', rs) := by
        rcases hs with rfl | rfl <;> exact hm
      exact shift_run hm'
    · have hm' : mrun h (bif ikEq k k' then intBin op k a b .fail nx else .fail) = some (r, ups, nx', rs) := by
        cases op <;> first | exact hm | exact absurd (.inl rfl) hs | exact absurd (.inr rfl) hs
      cases hk : ikEq k k' with
      | false => simp [hk, mrun] at hm'
      | true =>
        have := ikEq_eq hk
        subst this
        simp only [hk, cond_true] at hm'
        exact intBin_run ⟨fun e => hs (.inl e), fun e => hs (.inr e)⟩ hm'
  · cases hx with
    | str h1 => cases hy with
      | str h2 => exact lift (run_eqGuard_skip (by simp) (by simp)) (str_run h1 h2 hm)
  · rename_i a b
    cases hx; cases hy
    refine lift (run_eqGuard_skip (by simp) (by simp)) ?_
    split at hm
    · rename_i hu hop
      rcases isEq_some hop with ⟨_, rfl⟩ | ⟨hh, _⟩
      · obtain ⟨rfl, rfl, rfl, _⟩ := mrun_done hm
        exact ⟨_, run_eql_bool w t a b hu, .bool, rfl, rfl⟩
      · cases hh
    · rename_i hu hop
      rcases isEq_some hop with ⟨hh, _⟩ | ⟨_, rfl⟩
      · cases hh
      · obtain ⟨rfl, rfl, rfl, _⟩ := mrun_done hm
        exact ⟨_, run_neq_bool w t a b hu, .bool, rfl, rfl⟩
    · simp [mrun] at hm
  · rename_i as bs
    cases hc : isAggT P t && plainEq P 40 t && !P.eqGuardType P.depth t && fitsAll P (leaves P 40 t) as && fitsAll P (leaves P 40 t) bs with
    | false => simp [hc, mrun] at hm
    | true =>
      simp only [hc, cond_true] at hm
      simp only [Bool.and_eq_true] at hc
      obtain ⟨⟨⟨⟨c1, c2⟩, c3⟩, c4⟩, c5⟩ := hc
      have hx0 := hx
      have hy0 := hy
      cases hx with
      | agg h1 h2 =>
        cases hy with
        | agg h3 h4 =>
          rename_i xs ys
          have hA : TRel P ω w Im θ t as (.agg xs) := .inl ⟨c1, xs, rfl, by simpa using h1, fun i v u hv hu => h2 i v u hv (by simpa using hu)⟩
          have hB : TRel P ω w Im θ t bs (.agg ys) := .inl ⟨c1, ys, rfl, by simpa using h3, fun i v u hv hu => h4 i v u hv (by simpa using hu)⟩
          refine lift (run_eqGuard_agg w op t ox oy xs ys (by simpa using c3)) ?_
          split at hm
          · rename_i rr hrr hop
            rcases isEq_some hop with ⟨_, rfl⟩ | ⟨hh, _⟩
            · obtain ⟨rfl, rfl, rfl, _⟩ := mrun_done hm
              refine ⟨.bool rr, ?_, .bool, rfl, rfl⟩
              rw [run_eql_struct, run_equalIn_plain 40 10000 t (by omega) c2 as bs _ _ rr c4 c5 hA hB hrr]
              rfl
            · cases hh
          · rename_i rr hrr hop
            rcases isEq_some hop with ⟨hh, _⟩ | ⟨_, rfl⟩
            · cases hh
            · obtain ⟨rfl, rfl, rfl, _⟩ := mrun_done hm
              refine ⟨.bool (!rr), ?_, .bool, rfl, rfl⟩
              rw [run_neq_struct, run_equalIn_plain 40 10000 t (by omega) c2 as bs _ _ rr c4 c5 hA hB hrr]
              rfl
          · simp [mrun] at hm
  · simp [mrun] at hm

/-- Any operation but a call. -/
theorem op_plain {κ : Nat → Option CSumm} {o : Oper} {a : Act} {w : World} {Im : Nat → Prop} {θ : Th} {h : HpF} {ev : Operand → SV} {nx nx' : Nat} {r : SV} {ups : List (Nat × Option Chunk)} {rs : List Nat}
    (hno : ∀ c, o.op ≠ .call c) (hr : HRel P ω w Im θ h) (hev : ∀ x ∈ o.op.operands, VRel P ω w Im θ (ev x) (a.eval x)) (hfr : ∀ x, nx ≤ x → x < nx' → θ x = none)
    (hm : mrun h (opM0 P κ o ev nx) = some (r, ups, nx', rs)) : Good P ω o a w Im θ h r ups nx nx' := by
  obtain ⟨dst, op, type, pos, after, guard⟩ := o
  cases op <;> simp only [opM0] at hm <;> simp only [Op.operands] at hev <;> try (simp [mrun] at hm; done)
  case move x =>
    obtain ⟨rfl, rfl, rfl, _⟩ := mrun_done hm
    exact good_value hr rfl (hev x (by simp))
  case assign x =>
    obtain ⟨rfl, rfl, rfl, _⟩ := mrun_done hm
    exact good_value hr rfl (hev x (by simp))
  case pick c x y =>
    have hc := hev c (by simp)
    have hx := hev x (by simp)
    have hy := hev y (by simp)
    split at hm
    · rename_i t ht
      rw [ht] at hc
      simp only [mrun] at hm
      cases t
      · simp only [Bool.false_eq_true, if_false] at hm
        obtain ⟨rfl, rfl, rfl, _⟩ := mrun_done (h := h) hm
        refine good_value hr ?_ hy
        generalize he : a.eval c = u at hc
        cases hc
        simp [execOp, he, asBool]
      · simp only [if_true] at hm
        obtain ⟨rfl, rfl, rfl, _⟩ := mrun_done (h := h) hm
        refine good_value hr ?_ hx
        generalize he : a.eval c = u at hc
        cases hc
        simp [execOp, he, asBool]
    · simp [mrun] at hm
  case alloc t =>
    split at hm
    · rename_i z hz
      split at hm
      · rename_i cs hcs
        obtain ⟨rfl, rfl, rfl, _⟩ := mrun_done hm
        unfold zeroS at hz
        cases hi : P.info? t with
        | none => simp [hi] at hz
        | some i =>
          cases hzi : i.zero with
          | none => simp [hi, hzi] at hz
          | some zv =>
            simp only [hi, hzi, Option.some.injEq] at hz
            subst hz
            have hl := cells_rel (ofValue_rel (P := P) (ω := ω) w Im θ zv) hcs
            obtain ⟨θ', he, hr', hn⟩ := alloc_ok hr (hfr nx (Nat.le_refl _) (Nat.lt_succ_self _)) (T := t) hl
            refine good_run ?_ he (.ptr hn) hr'
            simp [execOp, Instr.alloc, zeroValue, typeInfo, hi, hzi, newVar, newRow]
      · simp [mrun] at hm
    · simp [mrun] at hm
  case box t x =>
    split at hm
    · rename_i cs hcs
      obtain ⟨rfl, rfl, rfl, _⟩ := mrun_done hm
      have hl := cells_rel (hev x (by simp)) hcs
      obtain ⟨θ', he, hr', hn⟩ := alloc_ok hr (hfr nx (Nat.le_refl _) (Nat.lt_succ_self _)) (T := t) hl
      refine good_run ?_ he (.ptr hn) hr'
      simp [execOp, Instr.box, newVar, newRow]
    · simp [mrun] at hm
  case build t ps =>
    obtain ⟨v, h1, h2, rfl, rfl⟩ := build_run (P := P) (w := w) (Im := Im) (θ := θ) (qs := ps.map fun (i, x) => (i, a.eval x)) (by simp) (fun i p q hp hq => by
      simp only [List.getElem?_map, Array.getElem?_toList, Option.map_eq_some_iff] at hp
      obtain ⟨c, hc, rfl⟩ := hp
      simp only [Array.getElem?_map, hc, Option.map_some, Option.some.injEq] at hq
      subst hq
      exact ⟨rfl, hev c.2 (by simp; exact ⟨c.1, by simpa using Array.mem_of_getElem? hc⟩)⟩) hm
    refine good_value hr ?_ h2
    simp [execOp, h1]
  case load t x =>
    have hx := hev x (by simp)
    split at hm
    · rename_i y off he
      rw [he] at hx
      generalize hu : a.eval x = u at hx
      cases hx with
      | ptr hθ =>
        rename_i b N
        simp only [mrun] at hm
        cases hy : h y with
        | none => simp [hy] at hm
        | some c =>
          cases c with
          | seq e es => simp [hy, mrun] at hm
          | loopr => simp [hy, mrun] at hm
          | mpc => simp [hy, mrun] at hm
          | cells T vs =>
            simp only [hy] at hm
            cases hp : partS P t vs off with
            | none => simp [hp, mrun] at hm
            | some v =>
              simp only [hp, mrun, Option.some.injEq, Prod.mk.injEq] at hm
              obtain ⟨rfl, rfl, rfl, _⟩ := hm
              obtain ⟨b', cs, fr, h1, h2, h3, h4⟩ := hr.at_ y _ hy
              rw [hθ] at h1
              simp only [Option.some.injEq, Prod.mk.injEq] at h1
              obtain ⟨rfl, _⟩ := h1
              obtain ⟨u, hru, hvu⟩ := run_loadVar_rel h2 h4 hp
              refine good_value hr ?_ hvu
              simp [execOp, hu, Instr.loadAt, Instr.sureAddr, hru]
    · simp [mrun] at hm
  case store t x v =>
    have hx := hev x (by simp)
    have hv := hev v (by simp)
    split at hm
    · rename_i y off vs he hc
      rw [he] at hx
      generalize hu : a.eval x = u at hx
      cases hx with
      | ptr hθ =>
        rename_i b N
        cases hb : Nat.beq vs.length (P.cellsOf t) && knownT P t with
        | false => simp [hb, mrun] at hm
        | true =>
          simp only [hb, cond_true, mrun] at hm
          cases hy : h y with
          | none => simp [hy] at hm
          | some c =>
            cases c with
            | seq e es => simp [hy, mrun] at hm
            | loopr => simp [hy, mrun] at hm
            | mpc => simp [hy, mrun] at hm
            | cells T cs =>
              simp only [hy] at hm
              cases hs : splice cs off vs with
              | none => simp [hs, mrun] at hm
              | some cs' =>
                simp only [hs, mrun, Option.some.injEq, Prod.mk.injEq] at hm
                obtain ⟨rfl, rfl, rfl, _⟩ := hm
                obtain ⟨hle, rfl⟩ := splice_spec _ _ _ _ hs
                obtain ⟨b', us, fr, h1, h2, h3, h4⟩ := hr.at_ y _ hy
                have hθ0 := h1
                rw [hθ] at h1
                simp only [Option.some.injEq, Prod.mk.injEq] at h1
                obtain ⟨rfl, _⟩ := h1
                have hvr := cells_rel hv hc
                have hlen : us.size = cs.length := by simpa using h4.len.symm
                have hvl : (a.eval v).cells.toList.length = vs.length := hvr.len.symm
                have hvs : (a.eval v).cells.size = P.cellsOf t := by
                  simp only [Bool.and_eq_true] at hb
                  have := Nat.eq_of_beq_eq_true hb.1
                  simp at hvl; omega
                have hst := run_storeCells_fine P b off T fr (a.eval v).cells.toList 0 us w h2 h3 (by rw [hvl]; omega) (hvr.one (oneS_one hc))
                have hw := write_ok hr (nx := nx) hy hθ0 h2 h3 hlen (vs' := cs.take off ++ vs ++ cs.drop (off + vs.length)) (us' := us.toList.take off ++ (a.eval v).cells.toList ++ us.toList.drop (off + vs.length)) (by simp; omega)
                  (((h4.takeL off).append hvr).append (h4.dropL _))
                refine good_skip ?_ hw.1 hw.2
                have hsz : (sizeOf t).run P w = .ok (P.cellsOf t) w := by
                  simp only [Bool.and_eq_true, knownT] at hb
                  obtain ⟨i, hi⟩ := Option.isSome_iff_exists.1 hb.2
                  exact run_sizeOf' hi w
                simp only [Nat.add_zero] at hst
                rw [hvl] at hst
                simp [execOp, hu, Instr.storeAt, Instr.sureAddr, storeVar, hsz, hvs, hst]
    · simp [mrun] at hm
  case nilCheck x =>
    have hx := hev x (by simp)
    split at hm
    · rename_i y off he
      obtain ⟨rfl, rfl, rfl, _⟩ := mrun_done hm
      rw [he] at hx
      generalize hu : a.eval x = u at hx
      refine good_value hr ?_ hx
      cases hx
      simp [execOp, hu]
    · rename_i f as bs he
      obtain ⟨rfl, rfl, rfl, _⟩ := mrun_done hm
      rw [he] at hx
      generalize hu : a.eval x = u at hx
      refine good_value hr ?_ hx
      cases hx
      simp [execOp, hu]
    · simp [mrun] at hm
  case binOp op t x y yt =>
    have hx := hev x (by simp)
    have hy := hev y (by simp)
    split at hm
    · rename_i b hb hop
      obtain ⟨rfl, rfl, rfl, _⟩ := mrun_done hm
      rcases isEq_some hop with ⟨_, rfl⟩ | ⟨hh, _⟩
      · obtain ⟨r1, r2, r3, r4, r5⟩ := nilEq_run hb hx hy
        refine good_value hr ?_ .bool
        simp only [execOp, r4]
        simp [run_eqGuard_skip r2 r3, r1]
      · cases hh
    · rename_i b hb hop
      obtain ⟨rfl, rfl, rfl, _⟩ := mrun_done hm
      rcases isEq_some hop with ⟨hh, _⟩ | ⟨_, rfl⟩
      · cases hh
      · obtain ⟨r1, r2, r3, r4, r5⟩ := nilEq_run hb hx hy
        refine good_value hr ?_ .bool
        simp only [execOp, r5]
        simp [run_eqGuard_skip r2 r3, r1]
    · obtain ⟨v, h1, h2, rfl, rfl⟩ := binS_run (P := P) (ox := x) (oy := y) hx hy hm
      refine good_value hr ?_ h2
      simp only [execOp]
      exact h1
  case unOp op t x =>
    have hx := hev x (by simp)
    split at hm
    · rename_i b he
      obtain ⟨rfl, rfl, rfl, _⟩ := mrun_done hm
      rw [he] at hx
      generalize hu : a.eval x = u at hx
      cases hx
      exact good_value hr (by simp [execOp, hu, Op.unary]) .bool
    · rename_i k n he
      obtain ⟨rfl, rfl, rfl, _⟩ := mrun_done hm
      rw [he] at hx
      generalize hu : a.eval x = u at hx
      cases hx
      exact good_value hr (by simp [execOp, hu, Op.unary, Op.intArith]) .int
    · simp [mrun] at hm
  case convert s d x =>
    have hx := hev x (by simp)
    unfold convS at hm
    split at hm
    · rename_i k1 k2 k3 n h1 h2 he
      obtain ⟨rfl, rfl, rfl, _⟩ := mrun_done hm
      rw [he] at hx
      generalize hu : a.eval x = u at hx
      cases hx
      exact good_value hr (by simp [execOp, hu, Go.convert, run_underlying h1, run_underlying h2, Conv.intToInt]) .int
    · rename_i l h1 h2 he
      obtain ⟨rfl, rfl, rfl, _⟩ := mrun_done hm
      rw [he] at hx
      generalize hu : a.eval x = u at hx
      refine good_value hr ?_ hx
      cases hx
      simp [execOp, hu, Go.convert, run_underlying h1, run_underlying h2]
    · simp [mrun] at hm
  case makeFunc f as bs =>
    cases f <;> simp only [] at hm <;> try (simp [mrun] at hm; done)
    obtain ⟨rfl, rfl, rfl, _⟩ := mrun_done hm
    refine good_value hr (v := .func _ (as.map a.eval) (bs.map a.eval)) (by simp [execOp, Instr.makeFunc]) (.fn (by simp) (by simp) (fun i v u hv hu => ?_) (fun i v u hv hu => ?_))
    · simp only [List.getElem?_map, Array.getElem?_toList, Option.map_eq_some_iff] at hv
      obtain ⟨c, hc, rfl⟩ := hv
      simp only [Array.getElem?_map, hc, Option.map_some, Option.some.injEq] at hu
      subst hu
      exact hev c (by simp; exact .inl (Array.mem_of_getElem? hc))
    · simp only [List.getElem?_map, Array.getElem?_toList, Option.map_eq_some_iff] at hv
      obtain ⟨c, hc, rfl⟩ := hv
      simp only [Array.getElem?_map, hc, Option.map_some, Option.some.injEq] at hu
      subst hu
      exact hev c (by simp; exact .inr (Array.mem_of_getElem? hc))
  case fieldAddr t x f =>
    have hx := hev x (by simp)
    split at hm
    · rename_i y off fs he hu
      rw [he] at hx
      generalize hux : a.eval x = u at hx
      cases hx with
      | ptr hθ =>
        cases hf : fs[f]? with
        | none => simp [hf, mrun] at hm
        | some fd =>
          simp only [hf] at hm
          cases hz : Nat.beq (P.cellsOf fd.type) 0 with
          | true => simp [hz, mrun] at hm
          | false =>
            simp only [hz, cond_false] at hm
            obtain ⟨rfl, rfl, rfl, _⟩ := mrun_done hm
            have hne : P.cellsOf fd.type ≠ 0 := fun e => by rw [nb_t e] at hz; cases hz
            obtain ⟨i, hi⟩ := info_of_cells hne
            refine good_value hr ?_ (.ptr hθ)
            simp [execOp, hux, Instr.fieldAt, run_underlying hu, hf, Instr.sureAddr, fieldPlace, run_sizeOf' hi, hne, add_off]
    · simp [mrun] at hm
  case field t x f =>
    have hx := hev x (by simp)
    split at hm
    · rename_i cs fs he hu
      rw [he] at hx
      generalize hux : a.eval x = u at hx
      cases hx with
      | agg h1 h2 =>
        rename_i us
        have hl : LRel P ω w Im θ cs us.toList := ⟨by simpa using h1, fun i v u hv hu => h2 i v u hv (by simpa using hu)⟩
        cases hf : fs[f]? with
        | none => simp [hf, mrun] at hm
        | some fd =>
          simp only [hf] at hm
          cases hp : partS P fd.type cs fd.offset with
          | none => simp [hp, mrun] at hm
          | some v =>
            simp only [hp] at hm
            obtain ⟨rfl, rfl, rfl, _⟩ := mrun_done hm
            obtain ⟨u, hru, hvu⟩ := run_part_rel hl hp
            refine good_value hr ?_ hvu
            simp [execOp, hux, Instr.field, run_underlying hu, hf, asAgg, hru]
    · simp [mrun] at hm
  case extract x i =>
    have hx := hev x (by simp)
    split at hm
    · rename_i vs he
      rw [he] at hx
      generalize hux : a.eval x = u at hx
      cases hx with
      | tup h1 h2 =>
        rename_i us
        cases hn : nth? vs i with
        | none => simp [hn, mrun] at hm
        | some v =>
          simp only [hn] at hm
          obtain ⟨rfl, rfl, rfl, _⟩ := mrun_done hm
          rw [nth?_eq] at hn
          have hlt : i < vs.length := by
            rcases Nat.lt_or_ge i vs.length with h | h
            · exact h
            · simp [List.getElem?_eq_none h] at hn
          have hlt' : i < us.size := by omega
          refine good_value hr ?_ (h2 i v us[i] hn (by simp [hlt']))
          simp [execOp, hux, Instr.extract, hlt']
    · simp [mrun] at hm
  case buildSlice t n ps =>
    obtain ⟨us, cs, e, h1, hl, hcl, rfl, rfl, rfl⟩ := build_slice_run (P := P) (w := w) (Im := Im) (θ := θ) (qs := ps.map fun (i, x) => (i, a.eval x)) (by simp) (fun i p q hp hq => by
      simp only [List.getElem?_map, Array.getElem?_toList, Option.map_eq_some_iff] at hp
      obtain ⟨c, hc, rfl⟩ := hp
      simp only [Array.getElem?_map, hc, Option.map_some, Option.some.injEq] at hq
      subst hq
      exact ⟨rfl, hev c.2 (by simp; exact ⟨c.1, Array.mem_of_getElem? hc⟩)⟩) hm
    obtain ⟨θ', he, hr', hn⟩ := alloc_ok hr (hfr nx (Nat.le_refl _) (Nat.lt_succ_self _)) (T := e) hl
    refine good_run ?_ he (.sl hn (by rw [hcl]; omega) (Nat.le_refl _)) hr'
    simp [execOp, h1]
  case makeSlice t l c =>
    obtain ⟨us, cs, e, n, k, h1, hl, hcl, hnk, rfl, rfl, rfl⟩ := make_slice_run (w := w) (Im := Im) (θ := θ) hm (hev l (by simp)) (hev c (by simp))
    obtain ⟨θ', he, hr', hn⟩ := alloc_ok hr (hfr nx (Nat.le_refl _) (Nat.lt_succ_self _)) (T := e) hl
    refine good_run ?_ he (.sl hn (by rw [hcl]; omega) hnk) hr'
    simp [execOp, h1]
  case slice t x lo hi mx =>
    refine good_of hr (Instr.sliceAt t (a.eval x) (lo.map a.eval) (hi.map a.eval) (mx.map a.eval)) rfl (run_slice hm (hev x (by simp)) (fun h => ?_) (fun v h => ?_) (fun h => ?_) (fun v h => ?_) (fun h => ?_))
    · cases lo <;> simp_all
    · cases lo with
      | none => cases h
      | some l => cases h; exact ⟨_, rfl, hev l (by simp)⟩
    · cases hi <;> simp_all
    · cases hi with
      | none => cases h
      | some l => cases h; exact ⟨_, rfl, hev l (by simp)⟩
    · cases mx <;> simp_all
  case indexAddr t x ix => exact good_of hr (Instr.indexAt t (a.eval x) (a.eval ix)) rfl (run_indexAddr hm (hev x (by simp)) (hev ix (by simp)))
  case index t x ix => exact good_of hr (Instr.index t (a.eval x) (a.eval ix)) rfl (run_index hm (hev x (by simp)) (hev ix (by simp)))
  case call c => exact absurd rfl (hno c)

end Go.Am
