/- The abstract machine: strings over a row of bytes; functions without a body. -/
import Derived.Test.YtbeolnccdhjjeaaAmX8
import Derived.KernelRfl
import Derived.Laws.StandIn
namespace Go.Am
variable {P : Program} {ω : Nat → Value}

section
variable {w : World} {Im : Nat → Prop} {θ : Th} {h : HpF}

theorem seq_bytes {e : TypeId} (hu : P.underlying e = some (.int .u8)) (h1c : P.cellsOf e = 1) {es : List SV} {cs : Array Value} {us : Nat → Value} (h8 : ∀ v ∈ es, expand P e v = v)
    (h9 : ∀ (i : Nat) (v : SV), es[i]? = some v → VRel P om0 w Im noTh v (us i) ∧ (us i).cells.size = P.cellsOf e ∧ ∀ (d : Nat) (c : Value), (us i).cells[d]? = some c → cs[i * P.cellsOf e + d]? = some c) :
    ∀ (i : Nat) (v : SV), es[i]? = some v → ∃ n : Int, cs[i]? = some (Value.int .u8 n) ∧ byteOf v = n.toNat.toUInt8 := by
  intro i v hv
  obtain ⟨q1, -, q2⟩ := h9 i v hv
  have q3 := h8 v (List.mem_of_getElem? hv)
  have hagg : isAggT P e = false := by simp [isAggT, hu]
  unfold expand at q3
  rw [hagg] at q3
  simp only [cond_false, expandLeaf, hu] at q3
  rw [← q3] at q1 ⊢
  generalize us i = z at q1 q2
  cases q1
  refine ⟨_, ?_, rfl⟩
  have := q2 0 (.int .u8 (asI v)) (by simp [Value.cells])
  simpa [h1c] using this

theorem load_seq {es : List SV} {cs : Array Value} {b : Nat} {T : TypeId} {fr : Nat × Nat} (hb : w.heap[b]? = some (.cells cs T fr)) (h : ∀ (i : Nat) (v : SV), es[i]? = some v → ∃ n : Int, cs[i]? = some (Value.int .u8 n) ∧ byteOf v = n.toNat.toUInt8) :
    ∀ m i acc, i + m = es.length → (loadBytes ⟨b, i, none⟩ acc m).run P w = .ok ⟨acc.data ++ ((es.drop i).map byteOf).toArray⟩ w
  | 0, i, acc, hm => by
    have : es.drop i = [] := List.drop_of_length_le (by omega)
    simp [loadBytes, this]
  | m + 1, i, acc, hm => by
    have hi : i < es.length := by omega
    obtain ⟨n, h1, h2⟩ := h i es[i] (by simp [hi])
    have hc : w.cell? ⟨b, i, none⟩ = some (.int .u8 n) := by simp [World.cell?, hb, h1]
    have ih := load_seq hb h m (i + 1) (acc.push n.toNat.toUInt8) (by omega)
    have ea : (⟨b, i, none⟩ : Addr).add 1 = ⟨b, i + 1, none⟩ := by simp [Addr.add]
    simp only [loadBytes, Sem.run_bind, run_load, hc, Result.andThen, ea]
    have e : ((es.drop i).map byteOf) = n.toNat.toUInt8 :: (es.drop (i + 1)).map byteOf := by rw [List.drop_eq_getElem_cons hi, List.map_cons, h2]
    rw [ih, e]
    congr 2
    apply Array.ext'
    simp [ByteArray.push, -List.map_drop]

theorem run_unsafeStrX {pt : TypeId} {p n : SV} {nx nx' : Nat} {r : SV} {ups : List (Nat × Option Chunk)} {rs : List Nat} (hr : HRel P ω w Im θ h) (hm : mrun h (unsafeStrX P pt p n nx) = some (r, ups, nx', rs)) {up un : Value} (hp : VRel P ω w Im θ p up) (hn : VRel P ω w Im θ n un)
    {tys : Array TypeId} {ty : TypeId} {args : Array Value} (h0 : tys[0]? = some pt) (ha : args = #[up, un]) :
    ∃ v w', (Builtin.unsafeString_ tys ty args).run P w = .ok v w' ∧ Ext (fun _ => False) h w Im θ (updF ups h) w' Im θ ∧ VRel P ω w' Im θ r v ∧ HRel P ω w' Im θ (updF ups h) ∧ nx' = nx := by
  unfold unsafeStrX at hm
  split at hm
  case h_2 => simp [mrun] at hm
  rename_i e y sz i off m hpt
  split at hm
  case h_2 => simp [mrun] at hm
  rename_i hu
  have hb0 := bif_fail hm; clear hm; obtain ⟨hk, hm⟩ := hb0
  simp only [Bool.and_eq_true] at hk
  have h1c : P.cellsOf e = 1 := Nat.eq_of_beq_eq_true hk.1.1.1
  have : sz = 1 := Nat.eq_of_beq_eq_true hk.1.1.2
  subst this
  have : i = 0 := Nat.eq_of_beq_eq_true hk.1.2
  subst this
  have : off = 0 := Nat.eq_of_beq_eq_true hk.2
  subst this
  have hb0 := get_run hm; clear hm; obtain ⟨c, rs', hy, hm, rfl⟩ := hb0
  cases c <;> try (simp [mrun] at hm; done)
  rename_i e' es
  have hb0 := bif_fail hm; clear hm; obtain ⟨hk2, hm⟩ := hb0
  have : e' = e := Nat.eq_of_beq_eq_true hk2
  subst this
  have hb0 := mrun_ite_fail' hm; clear hm; obtain ⟨hc, hm⟩ := hb0
  simp only [Bool.and_eq_true, decide_eq_true_eq] at hc
  obtain ⟨⟨rfl, hpos⟩, h63⟩ := hc
  obtain ⟨rfl, rfl, rfl, -⟩ := mrun_done hm
  cases hn
  cases hp with
  | qp hθ =>
    rename_i b N
    rcases hr.at_ y _ hy with ⟨rfl, h3⟩ | ⟨b', N', cs, T, fr, us, h3, h4, h5, ⟨h6, rfl⟩, h7, h8, h9⟩
    · simp at hpos
    · rw [h3] at hθ
      simp only [Option.some.injEq, Prod.mk.injEq] at hθ
      obtain ⟨rfl, rfl⟩ := hθ
      have hbs := seq_bytes hu h1c h8 h9
      have hld := load_seq (P := P) h4 hbs es.length 0 .empty (by omega)
      have hsh : w.shape? b' = some (T, cs.size) := by simp [World.shape?, h4]
      have hlies := Lib.liesAt_bytes (P := P) h1c (cs.size / P.cellsOf T) es.length (by rw [h1c, Nat.div_one]; rw [h1c, Nat.mul_one] at h7; omega)
      have hne : es.length ≠ 0 := by omega
      have h63' : ¬ (9223372036854775807 : Int) < (es.length : Int) := by omega
      have hmax : IntKind.i64.max = 9223372036854775807 := rfl
      have hrun : (Builtin.unsafeString_ tys ty args).run P w = .ok (.string ⟨((es.drop 0).map byteOf).toArray⟩) (w.freeze ⟨b', 0, none⟩ es.length) := by
        subst ha
        obtain ⟨s0, s1, s2, s3, hdef⟩ : ∃ (s0 : String) (s1 : RuntimeError) (s2 s3 : Unsupported), Builtin.unsafeString_ tys ty #[.pointer (some ⟨b', 0 * 1 + 0, none⟩), .int .i64 es.length] =
            (do
              let n ← asInt (.int .i64 es.length)
              let some pt := tys[0]? | stuck s0
              if n < 0 then runtimePanic s1
              if n > IntKind.i64.max then unsupported s2
              if n = 0 then pure (.string .empty)
              else if ← variablesAt ⟨b', 0, none⟩ (← elemOf pt) n.toNat then do
                let s ← loadBytes ⟨b', 0, none⟩ .empty n.toNat
                freeze ⟨b', 0, none⟩ n.toNat
                pure (.string s)
              else unsupported s3) := ⟨_, _, _, _, rfl⟩
        rw [hdef]
        simp [asInt, asIntOf, h0, hmax, h63', hne, variablesAt, hsh, hlies, elemOf, run_underlying hpt, hld]
        intro hh
        omega
      have hfz : w.freeze ⟨b', 0, none⟩ es.length = w.putObj b' (.cells cs T (if fr.1 == fr.2 then (0, 0 + es.length) else (min fr.1 0, max fr.2 (0 + es.length)))) := by
        obtain ⟨lo, hi⟩ := fr
        unfold World.freeze World.putObj
        rw [if_neg hne]
        congr 1
        apply Array.ext_getElem?
        intro j
        rw [Array.getElem?_modify, Array.getElem?_setIfInBounds]
        by_cases hj : b' = j
        · subst hj
          obtain ⟨hlt, hge⟩ := Array.getElem?_eq_some_iff.1 h4
          simp [hlt, hge]
        · simp [hj]
      obtain ⟨hE, hH⟩ := put_block hr hy h3 (.cells cs T (if fr.1 == fr.2 then (0, 0 + es.length) else (min fr.1 0, max fr.2 (0 + es.length)))) none (fun _ d hd => by cases hd)
      refine ⟨_, _, hrun, ?_, ?_, ?_, rfl⟩
      · rw [hfz]; exact hE
      · exact .str (by simp)
      · rw [hfz]; exact hH

theorem run_sliceDataX {x : SV} {nx nx' : Nat} {r : SV} {ups : List (Nat × Option Chunk)} {rs : List Nat} (hm : mrun h (sliceDataX x nx) = some (r, ups, nx', rs)) {u : Value} (hx : VRel P ω w Im θ x u) (tys : Array TypeId) (ty : TypeId) :
    ∃ v, (Builtin.unsafeSliceData_ tys ty #[u]).run P w = .ok v w ∧ VRel P ω w Im θ r v ∧ ups = [] ∧ nx' = nx := by
  unfold sliceDataX at hm
  split at hm
  case h_2 => simp [mrun] at hm
  rename_i y sz l n
  have hb0 := mrun_ite_fail' hm; clear hm; obtain ⟨hc, hm⟩ := hb0
  have hc := of_decide_eq_true hc
  obtain ⟨rfl, rfl, rfl, -⟩ := mrun_done hm
  cases hx with
  | qsnil h0 => omega
  | qs h1 h2 h3 => exact ⟨_, Lib.run_unsafeSliceData_row w tys ty _ _ _ (by omega), .qp h1, rfl, rfl⟩

theorem find_index {fn : Func} (hn : fn.name = "internal/bytealg.IndexByteString") (ho : fn.origin = "") : Extern.find fn = some Extern.BytealgIndexByte.indexByte ∧ Extern.findNext fn = none := by
  have a1 : Extern.allGenericRows.lookup "internal/bytealg.IndexByteString" = none := by kernel_rfl
  have a2 : Extern.allTypedRows.lookup "internal/bytealg.IndexByteString" = none := by kernel_rfl
  have a3 : Extern.allRows.lookup "internal/bytealg.IndexByteString" = some Extern.BytealgIndexByte.indexByte := by kernel_rfl
  have a4 : Extern.allNextRows.lookup "internal/bytealg.IndexByteString" = none := by kernel_rfl
  have a5 : Extern.allNextRows.lookup "" = none := by kernel_rfl
  exact ⟨by simp [Extern.find, hn, a1, a2, a3], by simp [Extern.findNext, hn, ho, a4, a5]⟩
theorem find_noEscape {fn : Func} (hn : fn.name = "internal/abi.NoEscape") (ho : fn.origin = "") : Extern.find fn = some Extern.AbiNoEscape.same ∧ Extern.findNext fn = none := by
  have a1 : Extern.allGenericRows.lookup "internal/abi.NoEscape" = none := by kernel_rfl
  have a2 : Extern.allTypedRows.lookup "internal/abi.NoEscape" = none := by kernel_rfl
  have a3 : Extern.allRows.lookup "internal/abi.NoEscape" = some Extern.AbiNoEscape.same := by kernel_rfl
  have a4 : Extern.allNextRows.lookup "internal/abi.NoEscape" = none := by kernel_rfl
  have a5 : Extern.allNextRows.lookup "" = none := by kernel_rfl
  exact ⟨by simp [Extern.find, hn, a1, a2, a3], by simp [Extern.findNext, hn, ho, a4, a5]⟩

end
end Go.Am
