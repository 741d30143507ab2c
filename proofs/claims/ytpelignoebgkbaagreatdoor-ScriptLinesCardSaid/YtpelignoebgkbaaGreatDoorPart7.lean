/- The reference's ParseIP, known. -/
import Derived.Test.YtpelignoebgkbaaGreatDoorPart4
import Derived.Test.YtpelignoebgkbaaGreatDoorPart6
import Derived.Shelf.Strconv.Itoa3
import Derived.KernelRfl
import Derived.Test.YtpelignoebgkbaaGreatDoorRows
import Derived.Lib.Walk
import Derived.Lib.ItoaMem
import Derived.Lib.AppendIntMem
import Derived.WalkKit
import Derived.BigCall
import Derived.BigGuard
set_option linter.unusedVariables false
set_option linter.unusedSimpArgs false
namespace Go.Proofs.YtpelignoebgkbaaGreatDoor
open Go.Am
set_option maxRecDepth 100000
/- AddrCalls: the reference's ParseIP, known. -/
theorem getV_cons {s : List SV} {k : Nat} (h : k < s.length) : s.drop k = s.getD k .junk :: s.drop (k + 1) := by
 rw [List.drop_eq_getElem_cons h, List.getD_eq_getElem?_getD, List.getElem?_eq_getElem h]; rfl
theorem il_valid : ValidL Tryz.prog e54 := loop_valid5 (T := ltab []) (sp := true) (fuel := 300) (c := c54) (μ := ilM) mixTry ltab_nil (show fillC (ltab []) c54 = c54 by kernel_rfl) (by
 intro N args H v' ups' hbt h
 unfold e54 il_s at h
 simp only [] at h
 split at h
 · rename_i es v i
   rw [crun_ite] at h
   cases hc : dec (ilOk es v i) with
   | false => rw [hc] at h; cases h
   | true =>
    rw [hc, cond_true, crun_ite] at h
    obtain ⟨hl, i0, i1⟩ := dec_iff.1 hc
    have hN : Nat.blt ((es.length : Int) - i).toNat (N + 1) = true := hbt
    rw [Nat.blt_eq] at hN
    refine ⟨openT Tryz.prog κip 300 5, fun _ => false, openT_ok noNumTry mixTry ipOk 300 5, ?_⟩
    have ht := il_t N es v i
    obtain ⟨k, rfl⟩ := Int.eq_ofNat_of_zero_le i0
    have hk : ((k : Nat) : Int).toNat = k := rfl
    rw [hk] at h ht
    by_cases hi : (k : Int) < es.length
    · rw [decide_eq_true hi, cond_true, inB_ok (by omega) (by omega), cond_true] at ht
      rw [getV_cons (show k < es.length by omega), ipL] at h
      generalize es.getD k .junk = x at *
      unfold ilX at ht
      cases hq : (nuV 255 (asS x)).2 with
      | false =>
       rw [hq, cond_false] at h
       rw [hq, Bool.not_false, cond_true] at ht
       cases h
       exact ⟨_, _, congrArg crun ht, .told ⟨1, [.int .u32 0, .int .i64 19, .psl 9 es, .int .u32 v], [.int .u32 0, .int .i64 19, .junk, .junk], rfl, rfl, .cons .rfl' (.cons .rfl' (CoL.junk Tryz.prog [.psl 9 es, .int .u32 v])), fun y c' hy => ⟨c', hy, .rfl'⟩⟩⟩
      | true =>
       rw [hq, cond_true] at h
       rw [hq, Bool.not_true, cond_false, show w64 ((k : Int) + 1) = ((k + 1 : Nat) : Int) from (w64_id (by omega) (by omega)).trans (by omega)] at ht
       unfold ilN at ht
       rw [show Nat.blt ((es.length : Int) - ((k + 1 : Nat) : Int)).toNat N = true by rw [Nat.blt_eq]; omega, cond_true, dec_iff.2 ⟨hl, by omega, by omega⟩, cond_true, show ((k + 1 : Nat) : Int).toNat = k + 1 from rfl] at ht
       refine ⟨v', ups', (congrArg crun ht).trans ?_, .same fun _ => rfl⟩
       rw [crun_cond]
       exact h
    · rw [decide_eq_false hi, cond_false] at ht
      have : es.drop k = [] := List.drop_eq_nil_of_le (by omega)
      rw [this] at h
      exact ⟨v', ups', (congrArg crun ht).trans h, .same fun _ => rfl⟩
 · cases h)
noncomputable abbrev T54 : LTab := ltab [("i", e54)]
noncomputable abbrev m54 : Code := markC [(4, "i")] body54
noncomputable def pir_b : CSumm := bodyCL Tryz.prog (openT Tryz.prog κip 300 5) (fun _ => false) T54 true 300 Tryz.f38 m54
theorem pir_k0 : Known Tryz.prog 38 pir_b := ⟨⟨Tryz.f38, Tryz.func38, noNum_at noNumTry Tryz.func38, rfl⟩, bodyL_valid (openT_ok noNumTry mixTry ipOk 300 5) mixTry (ltab_cons il_valid ltab_nil) Tryz.func38 (show Tryz.f38.body = some (fillC T54 m54) by kernel_rfl)⟩
noncomputable def pirC (es : List SV) : CTree := bif dec (ilOk es 0 0) then bif (ipL (es.drop (0 : Int).toNat) 0).isSome then bif (es.length : Int) != 4 then .ret (.tup [.int .u32 0, .int .i64 19]) [] else .ret (.tup [.int .u32 ((ipL (es.drop (0 : Int).toNat) 0).getD 0), .int .i64 0]) []
 else .ret (.tup [.int .u32 0, .int .i64 19]) [] else .fail
theorem pir_t (s : List UInt8) : pir_b [.str s] [] = bif decide (s.length ≤ 1000000) then pirC ((spl 46 s).map SV.str) else .fail := by kernel_rfl
theorem dec_rng {l : Int} (h0 : 0 ≤ l) (s : List UInt8) (h : (decF l s).2 = true) : 0 ≤ (decF l s).1 ∧ (decF l s).1 ≤ l := by
 unfold decF at h ⊢
 cases z1 s with
 | true => exact ⟨Int.le_refl _, h0⟩
 | false =>
  rw [cond_false]
  unfold dgV
  cases hq : dgS 10 l s 0 with
  | none => exact ⟨Int.le_refl _, h0⟩
  | some w => exact dgS_rng (by decide) (by decide) s 0 w (Int.le_refl _) h0 hq
theorem ipL_some : ∀ (L : List (List UInt8)) (v : Int), (ipL (L.map SV.str) v).isSome = L.all (fun t => (decF 255 t).2)
 | [], v => rfl
 | t :: L, v => by
  have h := (nu_dec (l := 255) (by decide) (by decide) t).1
  show (bif (nuV 255 t).2 then ipL (L.map SV.str) (ipS v (nuV 255 t).1) else none).isSome = _
  rw [h, List.all_cons]
  cases (decF 255 t).2 with
  | false => rfl
  | true => rw [cond_true, Bool.true_and]; exact ipL_some L _
theorem w32_id' {n : Int} (h0 : 0 ≤ n) (h1 : n < 4294967296) : w32 n = n := by
 show IntKind.u32.wrap n = n
 simp [IntKind.wrap, IntKind.bits, IntKind.signed]; omega
theorem ipS_v {v n : Int} (v0 : 0 ≤ v) (v1 : v < 16777216) (n0 : 0 ≤ n) (n1 : n ≤ 255) : ipS v n = v * 256 + n := by
 unfold ipS
 rw [w32_id' (n := v * 256) (by omega) (by omega), w32_id' (n := n) (by omega) (by omega), w32_id' (by omega) (by omega)]
theorem ipL_four {a b c d : List UInt8} (h : ([a, b, c, d] : List (List UInt8)).all (fun t => (decF 255 t).2) = true) : (ipL ([a, b, c, d].map SV.str) 0).getD 0 = ipO ([a, b, c, d].map fun t => (decF 255 t).1) := by
 simp only [List.all_cons, List.all_nil, Bool.and_true, Bool.and_eq_true] at h
 obtain ⟨ha, hb, hc, hd⟩ := h
 have na := nu_dec (l := 255) (by decide) (by decide) a
 have nb := nu_dec (l := 255) (by decide) (by decide) b
 have nc := nu_dec (l := 255) (by decide) (by decide) c
 have nd := nu_dec (l := 255) (by decide) (by decide) d
 obtain ⟨a0, a1⟩ := dec_rng (l := 255) (by decide) a ha
 obtain ⟨b0, b1⟩ := dec_rng (l := 255) (by decide) b hb
 obtain ⟨c0, c1⟩ := dec_rng (l := 255) (by decide) c hc
 obtain ⟨d0, d1⟩ := dec_rng (l := 255) (by decide) d hd
 have e : ipL ([a, b, c, d].map SV.str) 0 = some (ipS (ipS (ipS (ipS 0 (decF 255 a).1) (decF 255 b).1) (decF 255 c).1) (decF 255 d).1) := by
  show (bif (nuV 255 a).2 then (bif (nuV 255 b).2 then (bif (nuV 255 c).2 then (bif (nuV 255 d).2 then some (ipS (ipS (ipS (ipS 0 (nuV 255 a).1) (nuV 255 b).1) (nuV 255 c).1) (nuV 255 d).1) else none) else none) else none) else none) = _
  rw [na.1, nb.1, nc.1, nd.1, ha, hb, hc, hd, na.2 ha, nb.2 hb, nc.2 hc, nd.2 hd]
  rfl
 rw [e]
 show ipS (ipS (ipS (ipS 0 (decF 255 a).1) (decF 255 b).1) (decF 255 c).1) (decF 255 d).1 = ipO [(decF 255 a).1, (decF 255 b).1, (decF 255 c).1, (decF 255 d).1]
 rw [ipO_v a0 a1 b0 b1 c0 c1 d0 d1, ipS_v (v := 0) (by omega) (by omega) a0 a1, ipS_v (by omega) (by omega) b0 b1, ipS_v (by omega) (by omega) c0 c1, ipS_v (by omega) (by omega) d0 d1]
 omega
theorem pipV_spl (s : List UInt8) : pipV s = bif decide ((spl 46 s).length = 4) && (spl 46 s).all (fun t => (decF 255 t).2) then (ipO ((spl 46 s).map fun t => (decF 255 t).1), 0) else (0, 19) := by
 unfold pipV
 rw [spF_spl, show ((UInt8.toNat 46 : Nat) : Int) = 46 from rfl]
 cases decide ((spl 46 s).length = 4) && (spl 46 s).all (fun t => (decF 255 t).2) <;> rfl
theorem pirC_ok {s : List UInt8} (hs : s.length ≤ 1000000) : pirC ((spl 46 s).map SV.str) = .ret (.tup [.int .u32 (pipV s).1, .int .i64 (pipV s).2]) [] := by
 have hl : (spl 46 s).length ≤ s.length + 1 := splR_len 46 s []
 unfold pirC
 rw [dec_iff.2 ⟨by rw [List.length_map]; omega, Int.le_refl _, by omega⟩, cond_true, show ((spl 46 s).map SV.str).drop (0 : Int).toNat = (spl 46 s).map SV.str from rfl, ipL_some, pipV_spl, List.length_map]
 cases ha : (spl 46 s).all (fun t => (decF 255 t).2) with
 | false => rw [Bool.and_false]; rfl
 | true =>
  rw [cond_true, Bool.and_true]
  by_cases h4 : (spl 46 s).length = 4
  · rw [decide_eq_true h4, cond_true, show (((spl 46 s).length : Int) != 4) = false by rw [h4]; rfl, cond_false]
    have hf : (ipL ((spl 46 s).map SV.str) 0).getD 0 = ipO ((spl 46 s).map fun t => (decF 255 t).1) := by
     revert ha h4
     generalize spl 46 s = L
     intro ha h4
     match L, h4 with
     | [a, b, c, d], _ => exact ipL_four ha
    rw [hf]
  · rw [decide_eq_false h4, cond_false, show (((spl 46 s).length : Int) != 4) = true by rw [bne_iff_ne]; omega, cond_true]
theorem pipr_k : Known Tryz.prog 38 pip_s := pir_k0.weak (by
 intro args H v ups h
 unfold pip_s at h
 split at h
 · rename_i s
   rw [crun_ite, cond_eq_ite] at h
   split at h
   · rename_i hc
     refine (congrArg crun (pir_t s)).trans ?_
     rw [hc, cond_true, pirC_ok (of_decide_eq_true hc)]
     exact h
   · cases h
 · cases h)
end Go.Proofs.YtpelignoebgkbaaGreatDoor
/- Scripts: the library's numerals: the program's functions are those that the contracts were proved of. -/
namespace Go.Proofs.YtpelignoebgkbaaGreatDoor
set_option maxRecDepth 100000
def Tryz.lays171_ren : Go.Shelf.Ren := ⟨fun | 171 => 24 | 243 => 43 | 246 => 69 | 283 => 72 | 284 => 73 | 285 => 74 | 286 => 75 | 129 => 90 | 317 => 89 | 318 => 91 | 319 => 92 | 320 => 93 | 337 => 103 | 338 => 104 | n => n, fun | 3 => 3 | 9 => 9 | 2 => 2 | 4 => 4 | 171 => 107 | 0 => 0 | 53 => 22 | 37 => 89 | 5 => 5 | 173 => 110 | 212 => 123 | 51 => 24 | 20 => 20 | 213 => 124 | 46 => 102 | 232 => 144 | 233 => 145 | n => n, fun | 17 => 1 | 18 => 4 | 19 => 5 | n => n⟩
theorem Tryz.lays171 : Go.Proofs.LaysM.n171 Tryz.prog Tryz.lays171_ren := {
 mixed := by kernel_rfl
 f129 := Tryz.func90.trans (congrArg some (by kernel_rfl))
 f171 := Tryz.func24.trans (congrArg some (by kernel_rfl))
 f243 := Tryz.func43.trans (congrArg some (by kernel_rfl))
 f246 := Tryz.func69.trans (congrArg some (by kernel_rfl))
 f283 := Tryz.func72.trans (congrArg some (by kernel_rfl))
 f284 := Tryz.func73.trans (congrArg some (by kernel_rfl))
 f285 := Tryz.func74.trans (congrArg some (by kernel_rfl))
 f286 := Tryz.func75.trans (congrArg some (by kernel_rfl))
 f317 := Tryz.func89.trans (congrArg some (by kernel_rfl))
 f318 := Tryz.func91.trans (congrArg some (by kernel_rfl))
 f319 := Tryz.func92.trans (congrArg some (by kernel_rfl))
 f320 := Tryz.func93.trans (congrArg some (by kernel_rfl))
 f337 := Tryz.func103.trans (congrArg some (by kernel_rfl))
 f338 := Tryz.func104.trans (congrArg some (by kernel_rfl))
 t0 := Tryz.underlying0
 a0 := Tryz.isAgg0
 z0 := Tryz.sizeOf0
 v0 := Tryz.zeroValue0
 t2 := Tryz.underlying2
 a2 := Tryz.isAgg2
 z2 := Tryz.sizeOf2
 v2 := Tryz.zeroValue2
 t3 := Tryz.underlying3
 a3 := Tryz.isAgg3
 z3 := Tryz.sizeOf3
 v3 := Tryz.zeroValue3
 t4 := Tryz.underlying4
 a4 := Tryz.isAgg4
 z4 := Tryz.sizeOf4
 v4 := Tryz.zeroValue4
 t5 := Tryz.underlying5
 a5 := Tryz.isAgg5
 z5 := Tryz.sizeOf5
 v5 := Tryz.zeroValue5
 t9 := Tryz.underlying9
 a9 := Tryz.isAgg9
 z9 := Tryz.sizeOf9
 v9 := Tryz.zeroValue9
 t20 := Tryz.underlying20
 a20 := Tryz.isAgg20
 z20 := Tryz.sizeOf20
 v20 := Tryz.zeroValue20
 t37 := Tryz.underlying89
 a37 := Tryz.isAgg89
 z37 := Tryz.sizeOf89
 v37 := Tryz.zeroValue89
 t46 := Tryz.underlying102
 a46 := Tryz.isAgg102
 z46 := Tryz.sizeOf102
 v46 := Tryz.zeroValue102
 t51 := Tryz.underlying24
 a51 := Tryz.isAgg24
 z51 := Tryz.sizeOf24
 v51 := Tryz.zeroValue24
 t53 := Tryz.underlying22
 a53 := Tryz.isAgg22
 z53 := Tryz.sizeOf22
 v53 := Tryz.zeroValue22
 t171 := Tryz.underlying107
 a171 := Tryz.isAgg107
 z171 := Tryz.sizeOf107
 v171 := Tryz.zeroValue107
 t173 := Tryz.underlying110
 a173 := Tryz.isAgg110
 z173 := Tryz.sizeOf110
 v173 := Tryz.zeroValue110
 t212 := Tryz.underlying123
 a212 := Tryz.isAgg123
 z212 := Tryz.sizeOf123
 v212 := Tryz.zeroValue123
 t213 := Tryz.underlying124
 a213 := Tryz.isAgg124
 z213 := Tryz.sizeOf124
 t232 := Tryz.underlying144
 a232 := Tryz.isAgg144
 z232 := Tryz.sizeOf144
 v232 := Tryz.zeroValue144
 t233 := Tryz.underlying145
 a233 := Tryz.isAgg145
 z233 := Tryz.sizeOf145
 v233 := Tryz.zeroValue145
 g17 := by kernel_rfl
 g18 := by kernel_rfl
 g19 := by kernel_rfl
 i0 := by kernel_rfl
 i2 := by kernel_rfl
 i3 := by kernel_rfl
 i4 := by kernel_rfl
 i5 := by kernel_rfl
 i9 := by kernel_rfl
 i20 := by kernel_rfl
 i37 := by kernel_rfl
 i46 := by kernel_rfl
 i51 := by kernel_rfl
 i53 := by kernel_rfl
 i171 := by kernel_rfl
 i173 := by kernel_rfl
 i212 := by kernel_rfl
 i232 := by kernel_rfl
 i233 := by kernel_rfl
 m17 := by kernel_rfl
 m18 := by kernel_rfl
 m19 := by kernel_rfl }
end Go.Proofs.YtpelignoebgkbaaGreatDoor
/- Scripts: decimal numerals of any unsigned number, as the library writes them. -/
namespace Go.Proofs.YtpelignoebgkbaaGreatDoor
open Go.Shelf Go.RowKit Go.Sort Go.Lib
set_option maxRecDepth 100000
theorem small63 (i : Nat) (hi : i < 100) (w : World) : Calls Tryz.prog 72 #[.int .i64 i] w fun e w' => e = .returned (.string ⟨(Lib.decDigits i).toArray⟩) ∧ w' = w :=
 Any.internal_strconv_small { Tryz.lays171 with } i hi w
theorem numd64 (u : Nat) (h1 : 1 ≤ u) (h2 : u < 18446744073709551616) (w : World) (htab : Lib.TabIs Tryz.prog w "internal/strconv.uint64pow10" .u64 Lib.pow10Tab) :
  Calls Tryz.prog 73 #[.int .u64 u] w fun e w' => e = .returned (.int .i64 (Lib.nDigits u)) ∧ w' = w :=
 Any.internal_strconv_numDigits { Tryz.lays171 with } u h1 h2 w htab
theorem fmt65 (blk off cap : Nat) (u : Nat) (d : Array UInt8) (w : World) (hH : Holds (fun (b : UInt8) => Value.int .u8 (b.toNat : Int)) w blk off d) (hu : u < 10 ^ d.size) (hu64 : u < 18446744073709551616) (hsz : d.size < 4611686018427387904) :
  Calls Tryz.prog 74 #[.slice (some ⟨blk, off, none⟩) d.size cap, .int .u64 u] w fun e w' =>
   e = .returned (.tuple #[]) ∧ ∃ (n v' : Nat) (dk : Array UInt8), w' = (putRow (fun (b : UInt8) => Value.int .u8 (b.toNat : Int)) w blk off dk).drewN n ∧ FmtInv d.size u 0 v' dk :=
 Any.internal_strconv_formatBase10 { Tryz.lays171 with } blk off cap u d w hH hu hu64 hsz
set_option maxHeartbeats 6400000 in
theorem formatUint47 (u : Nat) (hu64 : u < 18446744073709551616) (w : World) (htab : Lib.TabIs Tryz.prog w "internal/strconv.uint64pow10" .u64 Lib.pow10Tab) :
  Calls Tryz.prog 46 #[.int .u64 u, .int .i64 10] w fun e w' => e = .returned (.string ⟨(Lib.decDigits u).toArray⟩) ∧ ∃ k os, w' = grow (w.drewN k) os := by
 have mixed : Tryz.prog.follows .mixedOrders = true := by kernel_rfl
 have t3 := Tryz.underlying3; have a3 := Tryz.isAgg3; have z3 := Tryz.sizeOf3; have v3 := Tryz.zeroValue3
 have t9 := Tryz.underlying9; have a9 := Tryz.isAgg9; have z9 := Tryz.sizeOf9; have v9 := Tryz.zeroValue9
 have t2 := Tryz.underlying2; have a2 := Tryz.isAgg2; have z2 := Tryz.sizeOf2; have v2 := Tryz.zeroValue2
 have t4 := Tryz.underlying4; have a4 := Tryz.isAgg4; have z4 := Tryz.sizeOf4; have v4 := Tryz.zeroValue4
 have t0 := Tryz.underlying0; have a0 := Tryz.isAgg0; have z0 := Tryz.sizeOf0; have v0 := Tryz.zeroValue0
 have t171 := Tryz.underlying107; have a171 := Tryz.isAgg107; have z171 := Tryz.sizeOf107; have v171 := Tryz.zeroValue107
 have t53 := Tryz.underlying22; have a53 := Tryz.isAgg22; have z53 := Tryz.sizeOf22; have v53 := Tryz.zeroValue22
 have t37 := Tryz.underlying89; have a37 := Tryz.isAgg89; have z37 := Tryz.sizeOf89; have v37 := Tryz.zeroValue89
 have t5 := Tryz.underlying5; have a5 := Tryz.isAgg5; have z5 := Tryz.sizeOf5; have v5 := Tryz.zeroValue5
 have t173 := Tryz.underlying110; have a173 := Tryz.isAgg110; have z173 := Tryz.sizeOf110; have v173 := Tryz.zeroValue110
 have e63 : ∀ args w, (callFunc 72 args).run Tryz.prog w = .ok (.enter 72 args) w := enters_of Tryz.func72 (by kernel_rfl) rfl
 have e64 : ∀ args w, (callFunc 73 args).run Tryz.prog w = .ok (.enter 73 args) w := enters_of Tryz.func73 (by kernel_rfl) rfl
 have e65 : ∀ args w, (callFunc 74 args).run Tryz.prog w = .ok (.enter 74 args) w := enters_of Tryz.func74 (by kernel_rfl) rfl
 by_cases hs : u < 100
 · go_enter Tryz.func46, Tryz.ntmps46
   go_wp2_with (go_at_fn 72; refine (small63 u hs _).mono ?_; rintro e w' ⟨rfl, rfl⟩)
   go_ret
   exact ⟨rfl, 0, #[], by simp [World.drewN_zero]⟩
 · have hu1 : 1 ≤ u := by omega
   have hnd20 : Lib.nDigits u ≤ 20 := by have := Lib.numDigits_eq u hu1 hu64; split at this <;> omega
   have hal : Tryz.prog.arrayLen 107 = 24 := by simp [Program.arrayLen, t171]
   have hsl1 : ∀ W, (Instr.sliceAt 107 (.pointer (some ⟨w.heap.size, 0, none⟩)) none (some (.int .i64 (Lib.nDigits u : Int))) none).run Tryz.prog W = .ok (.slice (some ⟨w.heap.size, 0, none⟩) (Lib.nDigits u) 24) W := fun W => by
    rw [run_sliceAt_array_h W 107 ⟨w.heap.size, 0, none⟩ (by simp [Program.arrayLen, Program.elem, t171]) .i64 (Lib.nDigits u : Int) (by omega) (by rw [hal]; omega)]
    go_simp
   have hH0 := Lib.holds_zero0 w 107 (Lib.nDigits u) (by omega)
   have hfmt := fmt65 w.heap.size 0 24 u (Array.replicate (Lib.nDigits u) 0) (w.alloc (.cells Lib.zeros24 107)) hH0 (by rw [Array.size_replicate]; exact Lib.lt_pow_nDigits u) hu64 (by rw [Array.size_replicate]; omega)
   rw [Array.size_replicate] at hfmt
   have HH0 := Lib.hid hH0
   clear hH0 hal
   go_enter Tryz.func46, Tryz.ntmps46
   go_wp2_with (first
    | (go_at_fn 73; refine (numd64 u hu1 hu64 _ (Lib.tabIs_alloc htab _)).mono ?_; rintro e w' ⟨rfl, rfl⟩))
   go_at_fn 74
   refine hfmt.mono ?_
   rintro e w' ⟨rfl, k, v', dk, rfl, hF⟩
   have hcv : (convert 89 9 (.slice (some ⟨w.heap.size, 0, none⟩) (Lib.nDigits u) 24)).run Tryz.prog ((putRow (fun (b : UInt8) => Value.int .u8 (b.toNat : Int)) (w.alloc (.cells Lib.zeros24 107)) w.heap.size 0 dk).drewN k) = .ok (.string ⟨(Lib.decDigits u).toArray⟩) ((putRow (fun (b : UInt8) => Value.int .u8 (b.toNat : Int)) (w.alloc (.cells Lib.zeros24 107)) w.heap.size 0 dk).drewN k) := by
    have h := run_convert_bytes_back (P := Tryz.prog) ((putRow (fun (b : UInt8) => Value.int .u8 (b.toNat : Int)) (w.alloc (.cells Lib.zeros24 107)) w.heap.size 0 dk).drewN k) 89 9 5 ⟨w.heap.size, 0, none⟩ 24 (Lib.decDigits u) t37 t5 t9 (fun j hj => by
     rw [Lib.row_is_numeral hF j hj, Lib.add_plain, World.cell?_drewN]
     exact cell?_putRow (fun (b : UInt8) => Value.int .u8 (b.toNat : Int)) _ w.heap.size 0 _ dk HH0.out (by rw [hF.size, Array.size_replicate]) j (by rw [hF.size]; rw [Lib.decDigits_length] at hj; exact hj))
    rw [Lib.decDigits_length] at h
    exact h
   go_wp2
   go_ret
   obtain ⟨os, eo⟩ := Lib.fin_at w (.cells Lib.zeros24 107) dk k 0
   exact ⟨rfl, k, os, eo⟩
set_option maxHeartbeats 6400000 in
theorem formatUint29 (u : Nat) (hu64 : u < 18446744073709551616) (w : World) (htab : Lib.TabIs Tryz.prog w "internal/strconv.uint64pow10" .u64 Lib.pow10Tab) :
  Calls Tryz.prog 29 #[.int .u64 u, .int .i64 10] w fun e w' => e = .returned (.string ⟨(Lib.decDigits u).toArray⟩) ∧ ∃ k os, w' = grow (w.drewN k) os := by
 have mixed : Tryz.prog.follows .mixedOrders = true := by kernel_rfl
 have t3 := Tryz.underlying3; have a3 := Tryz.isAgg3; have z3 := Tryz.sizeOf3; have v3 := Tryz.zeroValue3
 have t9 := Tryz.underlying9; have a9 := Tryz.isAgg9; have z9 := Tryz.sizeOf9; have v9 := Tryz.zeroValue9
 have e47 : ∀ args w, (callFunc 46 args).run Tryz.prog w = .ok (.enter 46 args) w := enters_of Tryz.func46 (by kernel_rfl) rfl
 go_enter Tryz.func29, Tryz.ntmps29
 go_wp2_with (go_at_fn 46; refine (formatUint47 u hu64 _ htab).mono ?_; rintro e w' ⟨rfl, k, os, rfl⟩)
 go_ret
 exact ⟨rfl, k, os, rfl⟩
end Go.Proofs.YtpelignoebgkbaaGreatDoor
/- Scripts: a line is read: the tree. -/
namespace Go.Proofs.YtpelignoebgkbaaGreatDoor
open Go.Am
set_option maxRecDepth 100000
noncomputable abbrev πR : Nat → Option CSumm := tbl [(15, fail_s), (34, words_s), (54, wd_s 0), (56, wd_s 1), (57, wd_s 3), (58, wd_s 7), (59, wd_s 2), (60, wd_s 4), (61, wd_s 5), (63, wd_s 6)]
theorem πRok : XOk Tryz.prog πR := xtbl_cons fail_k (xtbl_cons words_k (xtbl_cons wd70_k (xtbl_cons wd72_k (xtbl_cons wd73_k (xtbl_cons wd74_k (xtbl_cons wd75_k (xtbl_cons wd76_k (xtbl_cons wd77_k (xtbl_cons wd79_k xtbl_nil)))))))))
noncomputable abbrev κR : Nat → Option CSumm := openT Tryz.prog (tbl []) 300 5
theorem κRok : KOk Tryz.prog κR := openT_ok noNumTry mixTry ok0 300 5
def raiseT (e a : Int) : CTree := .ret (.tup [.bool false, flt e a]) []
def wS (v : SV) : List UInt8 := asS (cellAt v 0)
def wA (v : SV) : Int := asI (cellAt v (0 + 1))
def sl1 (es : List SV) (K : List SV → CTree) : CTree := bif decide ((0 : Int) ≤ 1) && decide ((1 : Int) ≤ es.length) && decide ((es.length : Int) ≤ es.length) then K ((es.drop (1 : Int).toNat).take ((es.length : Int).toNat - (1 : Int).toNat)) else .fail
def in0 (es : List SV) (K : SV → CTree) : CTree := bif inB 0 es.length then K (es.getD (0 : Int).toNat .junk) else .fail
noncomputable def brT (n : Int) : List Nat → Cmd → List SV → CTree
 | [], x, rest => bif decide ((rest.length : Int) > 0) then in0 rest fun w => raiseT 19 (wA w) else .ret (.tup [.bool true, .agg x.cs]) []
 | q :: qs, x, rest => bif ((rest.length : Int) == 0) then raiseT 19 n else
   in0 rest fun w => bif dec ((wS w).length ≤ 1000000) then bif (rdW q (wS w) x).1 == 0 then
    in0 rest fun w => bif dec ((wS w).length ≤ 1000000) then bif (rdW q (wS w) x).1 == 0 then sl1 rest fun rest' => brT n qs (rdW q (wS w) x).2 rest' else .fail else .fail
   else raiseT (rdW q (wS w) x).1 (wA w) else .fail
def formsL : List (List UInt8 × Int × List Nat) := [([114, 117, 110], 1, [0]), ([108, 105, 110, 107], 2, [0, 4]), ([110, 111, 100, 101], 3, [0, 4]), ([112, 111, 114, 116], 4, [0, 1, 4]), ([97, 116, 116, 97, 99, 104], 5, [0, 2]), ([114, 101, 115, 116, 97, 114, 116], 6, [0]),
 ([116, 104, 97, 119], 7, [0, 1, 5]), ([97, 110, 110, 111, 117, 110, 99, 101], 8, []), ([100, 97, 116, 97], 9, [0, 5, 7]), ([97, 114, 112], 10, [0, 6, 7]), ([105, 112], 11, [0, 6, 3, 7]), ([116, 114, 97, 99, 101], 12, [0, 5, 7])]
noncomputable def frmT (n : Int) (es : List SV) : List (List UInt8 × Int × List Nat) → CTree
 | [] => raiseT 8 0
 | f :: r => in0 es fun _ => in0 es fun w => bif !(f.1 == wS w) then frmT n es r else sl1 es fun rest => brT n f.2.2 ⟨f.2.1, 0, 0, 0, false, 0, 0, 0⟩ rest
noncomputable def read_b : CSumm := bodyX Tryz.prog κR πR (ltab []) 300 Tryz.f16 (Tryz.f16.body.getD .skip)
theorem read_k0 : KnownX Tryz.prog 16 read_b := knownX_of_body noNumTry mixTry κRok πRok lokp_nil Tryz.func16 (show Tryz.f16.body = some (fillC (ltab []) (Tryz.f16.body.getD .skip)) by kernel_rfl) (fuel := 300) (fun _ _ _ _ h => h)
theorem read_t (s : List UInt8) : read_b [.str s] [] = bif decide (s.length ≤ 1000000) then bif (words s).2.isSome then raiseT 19 ((words s).2.getD 0) else frmT s.length ((words s).1.map wsv) formsL else .fail := by kernel_rfl
end Go.Proofs.YtpelignoebgkbaaGreatDoor
/- Scripts: a line is read, plainly. -/
namespace Go.Proofs.YtpelignoebgkbaaGreatDoor
open Go.Am
set_option maxRecDepth 100000
def cmd0' (k : Int) : Cmd := ⟨k, 0, 0, 0, false, 0, 0, 0⟩
def brF (n : Int) : List Nat → Cmd → List (List UInt8 × Int) → Int × Int × Cmd
 | [], x, [] => (0, 0, x)
 | [], x, w :: _ => (19, w.2, x)
 | _ :: _, x, [] => (19, n, x)
 | q :: qs, x, w :: ws => if (rdW q w.1 x).1 = 0 then brF n qs (rdW q w.1 x).2 ws else ((rdW q w.1 x).1, w.2, x)
def frmF (n : Int) (w : List UInt8 × Int) (ws : List (List UInt8 × Int)) : List (List UInt8 × Int × List Nat) → Int × Int × Cmd
 | [] => (8, 0, cmd0' 0)
 | f :: r => if f.1 = w.1 then brF n f.2.2 (cmd0' f.2.1) ws else frmF n w ws r
def readF (s : List UInt8) : Int × Int × Cmd :=
 match (words s).2, (words s).1 with
 | some p, _ => (19, p, cmd0' 0)
 | none, [] => (8, 0, cmd0' 0)
 | none, w :: ws => frmF s.length w ws formsL
def resT (r : Int × Int × Cmd) : CTree := bif r.1 == 0 then .ret (.tup [.bool true, .agg r.2.2.cs]) [] else raiseT r.1 r.2.1
theorem wS_wsv (w : List UInt8 × Int) : wS (wsv w) = w.1 := rfl
theorem wA_wsv (w : List UInt8 × Int) : wA (wsv w) = w.2 := rfl
theorem in0_cons (w : List UInt8 × Int) (ws : List (List UInt8 × Int)) (K : SV → CTree) : in0 ((w :: ws).map wsv) K = K (wsv w) := by
 unfold in0
 rw [inB_ok (Int.le_refl _) (by rw [List.length_map, List.length_cons]; omega), cond_true]
 rfl
theorem sl1_cons (w : List UInt8 × Int) (ws : List (List UInt8 × Int)) (K : List SV → CTree) : sl1 ((w :: ws).map wsv) K = K (ws.map wsv) := by
 unfold sl1
 rw [slB_ok (a := 1) (b := (((w :: ws).map wsv).length : Int)) (by omega) (by simp; omega) (Int.le_refl _), cond_true]
 congr 1
 show (ws.map wsv).take (((w :: ws).map wsv).length - 1) = _
 exact List.take_of_length_le (by simp)
theorem brT_eq (n : Int) : ∀ (qs : List Nat) (x : Cmd) (ws : List (List UInt8 × Int)), (∀ w ∈ ws, w.1.length ≤ 1000000) → crun (brT n qs x (ws.map wsv)) = crun (resT (brF n qs x ws))
 | [], x, [], _ => rfl
 | [], x, w :: ws, _ => by
  unfold brT brF
  rw [decide_eq_true (by rw [List.length_map, List.length_cons]; omega), cond_true, in0_cons]
  rfl
 | q :: qs, x, [], _ => by unfold brT brF; rfl
 | q :: qs, x, w :: ws, h => by
  have hw := h w (by simp)
  unfold brT brF
  rw [show ((((w :: ws).map wsv).length : Int) == 0) = false by rw [beq_eq_false_iff_ne]; simp; omega, cond_false, in0_cons, wS_wsv, wA_wsv, dec_iff.2 hw, cond_true, in0_cons, wS_wsv, dec_iff.2 hw, cond_true, sl1_cons]
  by_cases he : (rdW q w.1 x).1 = 0
  · rw [if_pos he, show ((rdW q w.1 x).1 == 0) = true by simpa using he, cond_true, cond_true]
    exact brT_eq n qs _ ws (fun v hv => h v (by simp [hv]))
  · rw [if_neg he, show ((rdW q w.1 x).1 == 0) = false by simpa using he, cond_false]
    unfold resT
    rw [show ((rdW q w.1 x).1 == 0) = false by simpa using he]
    rfl
theorem frmT_eq (n : Int) (w : List UInt8 × Int) (ws : List (List UInt8 × Int)) (h : ∀ v ∈ w :: ws, v.1.length ≤ 1000000) : ∀ (fs : List (List UInt8 × Int × List Nat)), crun (frmT n ((w :: ws).map wsv) fs) = crun (resT (frmF n w ws fs))
 | [] => rfl
 | f :: r => by
  unfold frmT frmF
  rw [in0_cons, in0_cons, wS_wsv, sl1_cons]
  by_cases he : f.1 = w.1
  · rw [if_pos he, show (f.1 == w.1) = true by simpa using he, Bool.not_true, cond_false]
    exact brT_eq n _ _ ws (fun v hv => h v (by simp [hv]))
  · rw [if_neg he, show (f.1 == w.1) = false by simpa using he, Bool.not_false, cond_true]
    exact frmT_eq n w ws h r
theorem wordsF_len : ∀ (l : List (List UInt8)) (a : Int) (B : Nat), (∀ w ∈ l, w.length ≤ B) → ∀ w ∈ (wordsF l a).1, w.1.length ≤ B
 | [], _, _, _, w, hw => by simp [wordsF] at hw
 | v :: l, a, B, h, w, hw => by
  unfold wordsF at hw
  split at hw
  · simp at hw
  · rcases List.mem_cons.1 hw with rfl | hw
    · exact h v (by simp)
    · exact wordsF_len l _ B (fun u hu => h u (by simp [hu])) w hw
theorem splR_each (c : Int) : ∀ (s cur : List UInt8), ∀ w ∈ splR c s cur, w.length ≤ s.length + cur.length
 | [], cur, w, hw => by simp [splR] at hw; simp [hw]
 | x :: xs, cur, w, hw => by
  rw [splR] at hw
  cases hx : ((x.toNat : Int) == c) with
  | true =>
   rw [hx, cond_true] at hw
   rcases List.mem_cons.1 hw with rfl | hw
   · simp
   · have := splR_each c xs [] w hw; simp at this ⊢; omega
  | false =>
   rw [hx, cond_false] at hw
   have := splR_each c xs (cur ++ [x]) w hw
   simp at this ⊢; omega
theorem words_len {s : List UInt8} : ∀ w ∈ (words s).1, w.1.length ≤ s.length :=
 wordsF_len _ 0 s.length (fun w hw => by have := splR_each 32 s [] w hw; simpa using this)
theorem words_some {s : List UInt8} (h : (words s).2 = none) : (words s).1 ≠ [] := by
 unfold words spl at *
 cases hq : splR 32 s [] with
 | nil =>
  have : ∀ (s cur : List UInt8), splR 32 s cur ≠ [] := by
   intro s
   induction s with
   | nil => intro cur; simp [splR]
   | cons x xs ih =>
    intro cur
    rw [splR]
    cases ((x.toNat : Int) == 32)
    · exact ih _
    · simp
  exact absurd hq (this s [])
 | cons v l =>
  rw [hq] at h
  unfold wordsF at h ⊢
  split at h
  · cases h
  · rename_i hv; simp [hv]
noncomputable def read_s : CSumm := fun args H => match args, H with
 | [.str s], [] => .ite (decide (s.length ≤ 1000000)) (.ite ((readF s).1 == 0) (.ret (.tup [.bool true, .agg (readF s).2.2.cs]) []) (.ret (.tup [.bool false, flt (readF s).1 (readF s).2.1]) [])) .fail
 | _, _ => .fail
theorem read_k : KnownX Tryz.prog 16 read_s := ⟨read_k0.fn, fun args H b v ups h => by
 refine read_k0.ok args H b v ups ?_
 unfold read_s at h
 split at h
 · rename_i s
   rw [crun_ite, cond_eq_ite] at h
   split at h
   · rename_i hc
     have hs := of_decide_eq_true hc
     rw [crun_ite] at h
     refine (congrArg crun (read_t s)).trans ?_
     rw [decide_eq_true hs, cond_true]
     have hres : crun (resT (readF s)) = some (.tup [.bool b, v], ups) := by unfold resT; rw [crun_cond]; exact h
     rw [← hres]
     unfold readF
     cases h2 : (words s).2 with
     | some p => rfl
     | none =>
      cases h1 : (words s).1 with
      | nil => exact absurd h1 (words_some h2)
      | cons w ws =>
       rw [Option.isSome, cond_false]
       exact frmT_eq s.length w ws (fun v hv => Nat.le_trans (words_len v (by rw [h1]; exact hv)) hs) formsL
   · cases h
 · cases h⟩
end Go.Proofs.YtpelignoebgkbaaGreatDoor
