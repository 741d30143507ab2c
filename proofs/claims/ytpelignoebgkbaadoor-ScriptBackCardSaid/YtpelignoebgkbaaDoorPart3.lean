/- Addresses are parsed: the trees. -/
import Derived.Test.YtpelignoebgkbaaDoorPart2
import Derived.Test.YtpelignoebgkbaaDoorMachine7
set_option linter.unusedVariables false
set_option linter.unusedSimpArgs false
namespace Go.Proofs.YtpelignoebgkbaaDoor
open Go.Am
set_option maxRecDepth 100000
abbrev wu64 (n : Int) : Int := IntKind.u64.wrap n
def orI (k : IntKind) (a b : Int) : Int := k.wrap (BitVec.ofInt k.bits a ||| BitVec.ofInt k.bits b).toNat
def spC (rd : List UInt8 → Int × Bool) (c : UInt8) : Nat → List UInt8 → List Int → (List Int → CTree) → CTree → CTree
 | 0, s, _, _, F => bif decide (s.length ≤ 1000000) then bif decide ((cutF c s).1.length ≤ 1000000) then bif (bif !(rd (cutF c s).1).2 then true else true) then F else (bif !(cutF c s).2.2 then .fail else .fail) else .fail else .fail
 | m + 1, s, acc, K, F => bif decide (s.length ≤ 1000000) then bif decide ((cutF c s).1.length ≤ 1000000) then bif (bif !(rd (cutF c s).1).2 then true else false) then F else
   bif !(cutF c s).2.2 then (match m with | 0 => K (acc ++ [(rd (cutF c s).1).1]) | _ + 1 => F) else spC rd c m (cutF c s).2.1 (acc ++ [(rd (cutF c s).1).1]) K F else .fail else .fail
def shO (k : IntKind) (a b : Int) : Int := orI k (k.wrap (a * 256)) (k.wrap b)
def ipO (l : List Int) : Int := shO .u32 (shO .u32 (shO .u32 (shO .u32 0 (l.getD 0 0)) (l.getD 1 0)) (l.getD 2 0)) (l.getD 3 0)
def macO (l : List Int) : Int := shO .u64 (shO .u64 (shO .u64 (shO .u64 (shO .u64 (shO .u64 0 (l.getD 0 0)) (l.getD 1 0)) (l.getD 2 0)) (l.getD 3 0)) (l.getD 4 0)) (l.getD 5 0)
noncomputable abbrev κsp := tbl [(96, rdS (decF 255)), (95, rdS hexF), (101, cut_s)]
theorem spOk : KOk Tryd.prog κsp := tbl_cons oct_k (tbl_cons pair_k (tbl_cons cut2_k ok0))
theorem pip_t (s : List UInt8) : opn κsp Tryd.f80 [.str s] [] = spC (decF 255) 46 4 s [] (fun l => .ret (.tup [.int .u32 (ipO l), .int .i64 0]) []) (.ret (.tup [.int .u32 0, .int .i64 19]) []) := by kernel_rfl
theorem pmac_t (s : List UInt8) : opn κsp Tryd.f78 [.str s] [] = spC hexF 58 6 s [] (fun l => .ret (.tup [.int .u64 (macO l), .int .i64 0]) []) (.ret (.tup [.int .u64 0, .int .i64 19]) []) := by kernel_rfl
end Go.Proofs.YtpelignoebgkbaaDoor
/- Addresses are parsed, known. -/
namespace Go.Proofs.YtpelignoebgkbaaDoor
open Go.Am
set_option maxRecDepth 100000
def spF (rd : List UInt8 → Int × Bool) (c : UInt8) : Nat → List UInt8 → Option (List Int)
 | 0, _ => none
 | m + 1, s => bif !(rd (cutF c s).1).2 then none else bif !(cutF c s).2.2 then (match m with | 0 => some [(rd (cutF c s).1).1] | _ + 1 => none) else
   match spF rd c m (cutF c s).2.1 with | some l => some ((rd (cutF c s).1).1 :: l) | none => none
theorem cutF_len (c : UInt8) (s : List UInt8) : (cutF c s).1.length ≤ s.length ∧ (cutF c s).2.1.length ≤ s.length := by
 rcases cutF_idx c s with ⟨_, h⟩ | ⟨k, _, hk, h⟩
 · rw [h]; exact ⟨Nat.le_refl _, Nat.zero_le _⟩
 · rw [h]
   refine ⟨?_, ?_⟩
   · show (s.take k).length ≤ _; rw [List.length_take]; omega
   · show (s.drop (k + 1)).length ≤ _; rw [List.length_drop]; omega
theorem spC_ok {rd : List UInt8 → Int × Bool} {c : UInt8} {K : List Int → CTree} {F : CTree} : ∀ (m : Nat) (s : List UInt8) (acc : List Int), s.length ≤ 1000000 → spC rd c m s acc K F = match spF rd c m s with | some l => K (acc ++ l) | none => F
 | 0, s, acc, h => by
  obtain ⟨h1, h2⟩ := cutF_len c s
  unfold spC spF
  rw [decide_eq_true h, cond_true, decide_eq_true (by omega), cond_true]
  cases !(rd (cutF c s).1).2 <;> rfl
 | m + 1, s, acc, h => by
  obtain ⟨h1, h2⟩ := cutF_len c s
  unfold spC spF
  rw [decide_eq_true h, cond_true, decide_eq_true (show (cutF c s).1.length ≤ 1000000 by omega), cond_true]
  cases !(rd (cutF c s).1).2 with
  | true => rfl
  | false =>
   rw [cond_false, cond_false, cond_false]
   cases !(cutF c s).2.2 with
   | true => cases m <;> rfl
   | false =>
    rw [cond_false, cond_false, spC_ok m _ _ (by omega)]
    cases spF rd c m (cutF c s).2.1 with
    | none => rfl
    | some l => simp
def pipV (s : List UInt8) : Int × Int := match spF (decF 255) 46 4 s with | some l => (ipO l, 0) | none => (0, 19)
def pmacV (s : List UInt8) : Int × Int := match spF hexF 58 6 s with | some l => (macO l, 0) | none => (0, 19)
noncomputable def pip_s : CSumm := fun args H => match args, H with
 | [.str s], [] => .ite (decide (s.length ≤ 1000000)) (.ret (.tup [.int .u32 (pipV s).1, .int .i64 (pipV s).2]) []) .fail
 | _, _ => .fail
noncomputable def pmac_s : CSumm := fun args H => match args, H with
 | [.str s], [] => .ite (decide (s.length ≤ 1000000)) (.ret (.tup [.int .u64 (pmacV s).1, .int .i64 (pmacV s).2]) []) .fail
 | _, _ => .fail
theorem pip_k : Known Tryd.prog 80 pip_s := (openKnown spOk Tryd.func80 rfl).weak (by
 intro args H v ups h
 unfold pip_s at h
 split at h
 · rename_i s
   rw [crun_ite, cond_eq_ite] at h
   split at h
   · rename_i hc
     refine (congrArg crun (pip_t s)).trans ?_
     rw [spC_ok 4 s [] (of_decide_eq_true hc), ← h]
     unfold pipV
     cases spF (decF 255) 46 4 s <;> rfl
   · cases h
 · cases h)
theorem pmac_k : Known Tryd.prog 78 pmac_s := (openKnown spOk Tryd.func78 rfl).weak (by
 intro args H v ups h
 unfold pmac_s at h
 split at h
 · rename_i s
   rw [crun_ite, cond_eq_ite] at h
   split at h
   · rename_i hc
     refine (congrArg crun (pmac_t s)).trans ?_
     rw [spC_ok 6 s [] (of_decide_eq_true hc), ← h]
     unfold pmacV
     cases spF hexF 58 6 s <;> rfl
   · cases h
 · cases h)
end Go.Proofs.YtpelignoebgkbaaDoor
/- Scripts: words are read into a command: the functions by kind. -/
namespace Go.Proofs.YtpelignoebgkbaaDoor
open Go.Am
set_option maxRecDepth 100000
noncomputable abbrev πN : Nat → Option CSumm := tbl [(33, fail_s), (71, number_s)]
theorem πNok : XOk Tryd.prog πN := xtbl_cons fail_k (xtbl_cons number_k xtbl_nil)
noncomputable abbrev κA : Nat → Option CSumm := tbl [(78, pmac_s), (80, pip_s)]
theorem κAok : KOk Tryd.prog κA := tbl_cons pmac_k (tbl_cons pip_k ok0)
structure Cmd where
 k : Int
 a : Int
 b : Int
 c : Int
 up : Bool
 m : Int
 i : Int
 d : Int
def Cmd.cs (x : Cmd) : List SV := [.int .i64 x.k, .int .i64 x.a, .int .i64 x.b, .int .i64 x.c, .bool x.up, .int .u64 x.m, .int .u32 x.i, .int .u64 x.d]
def cmdH (cs : List SV) : HpL := [(0, .cells 119 [.ptr 1 0]), (1, .cells 38 cs)]
def sUp : List UInt8 := [117, 112]
def sDown : List UInt8 := [100, 111, 119, 110]
def sAll : List UInt8 := [97, 108, 108]
def sNone : List UInt8 := [110, 111, 110, 101]
def rdW (q : Nat) (s : List UInt8) (x : Cmd) : Int × Cmd :=
 match q with
 | 0 => ((numV 1000000000 s).1, { x with a := (numV 1000000000 s).2 })
 | 1 => ((numV 1000000000 s).1, { x with b := (numV 1000000000 s).2 })
 | 2 => if s = sNone then (0, { x with b := -1 }) else ((numV 1000000000 s).1, { x with b := (numV 1000000000 s).2 })
 | 3 => ((numV 65535 s).1, { x with b := (numV 65535 s).2 })
 | 4 => if s = sUp then (0, { x with up := true }) else if s = sDown then (0, { x with up := false }) else (19, x)
 | 5 => if s = sAll then (0, { x with m := 281474976710655 }) else if (pmacV s).2 = 0 then (0, { x with m := (pmacV s).1 }) else (19, x)
 | 6 => if (pipV s).2 = 0 then (0, { x with i := (pipV s).1 }) else (19, x)
 | _ => ((numV 9223372036854775807 s).1, { x with d := (numV 9223372036854775807 s).2 })
def wdE (e a : Int) : CTree := .ret (.tup [.bool false, flt e a]) []
def wdR (r : Int × Cmd) (a : Int) : CTree := bif r.1 == 0 then .ret (.tup [.bool true, .tup []]) [(1, some (.cells 38 r.2.cs))] else wdE r.1 a
noncomputable def wd_s (q : Nat) : CSumm := fun args H => match args, H with
 | [.agg [.str s, .int .i64 a], .ptr 0 0], [(0, .cells 119 [.ptr 1 0]), (1, .cells 38 [.int .i64 k, .int .i64 ca, .int .i64 b, .int .i64 c, .bool up, .int .u64 m, .int .u32 i, .int .u64 d])] =>
  .ite (dec (s.length ≤ 1000000)) (.ite ((rdW q s ⟨k, ca, b, c, up, m, i, d⟩).1 == 0) (.ret (.tup [.bool true, .tup []]) [(1, some (.cells 38 (rdW q s ⟨k, ca, b, c, up, m, i, d⟩).2.cs))]) (.ret (.tup [.bool false, flt (rdW q s ⟨k, ca, b, c, up, m, i, d⟩).1 a]) [])) .fail
 | _, _ => .fail
noncomputable abbrev bX (fn : Func) : CSumm := bodyX Tryd.prog κA πN (ltab []) 300 fn (fn.body.getD .skip)
theorem bX_known {f : FuncId} {fn : Func} (hf : Tryd.prog.funcs[f]? = some fn) (hb : fn.body = some (fillC (ltab []) (fn.body.getD .skip))) : KnownX Tryd.prog f (bX fn) := knownX_of_body noNumTry mixTry κAok πNok lokp_nil hf hb (fuel := 300) (fun _ _ _ _ h => h)
theorem wd_known {f : FuncId} {q : Nat} {fn : Func} (hf : Tryd.prog.funcs[f]? = some fn) (hb : fn.body = some (fillC (ltab []) (fn.body.getD .skip)))
  (h : ∀ (s : List UInt8) (a : Int) (x : Cmd), s.length ≤ 1000000 → crun (bX fn [.agg [.str s, .int .i64 a], .ptr 0 0] (cmdH x.cs)) = crun (wdR (rdW q s x) a)) : KnownX Tryd.prog f (wd_s q) :=
 ⟨(bX_known hf hb).fn, fun args H b v ups hr => (bX_known hf hb).ok args H b v ups (by
  unfold wd_s at hr
  split at hr
  · rename_i s a k ca b c up m i d
    rw [crun_ite] at hr
    cases hc : dec (s.length ≤ 1000000) with
    | false => rw [hc] at hr; cases hr
    | true =>
     rw [hc, cond_true, crun_ite] at hr
     refine (h s a ⟨k, ca, b, c, up, m, i, d⟩ (dec_iff.1 hc)).trans ?_
     unfold wdR
     rw [crun_cond]
     exact hr
  · cases hr)⟩
noncomputable def numT (most : Int) (s : List UInt8) (a : Int) (K : Int → CTree) : CTree :=
 bif dec (numOk most s) then bif (numV most s).1 == 0 then bif dec (numOk most s) then bif (numV most s).1 == 0 then K (numV most s).2 else .fail else .fail else wdE (numV most s).1 a else .fail
theorem numT_eq {most : Int} {s : List UInt8} (h : numOk most s) (a : Int) (K : Int → CTree) : numT most s a K = bif (numV most s).1 == 0 then K (numV most s).2 else wdE (numV most s).1 a := by
 unfold numT
 rw [dec_iff.2 h]
 cases (numV most s).1 == 0 <;> rfl
theorem numV_rng {most : Int} (h : 0 ≤ most) (s : List UInt8) : 0 ≤ (numV most s).2 ∧ (numV most s).2 ≤ most := by
 unfold numV
 split
 · exact ⟨Int.le_refl _, h⟩
 · split
   · rename_i hd
     split
     · exact accN_le s 0 hd (Int.le_refl _) h
     · exact ⟨Int.le_refl _, h⟩
   · exact ⟨Int.le_refl _, h⟩
theorem numOk_of {most : Int} {s : List UInt8} (h : s.length ≤ 1000000) (h1 : 9 ≤ most) (h2 : most ≤ 9223372036854775807) : numOk most s := ⟨by omega, h1, h2⟩
def okC (cs : List SV) : CTree := .ret (.tup [.bool true, .tup []]) [(1, some (.cells 38 cs))]
theorem wd70_t (s : List UInt8) (a : Int) (x : Cmd) : bX Tryd.f70 [.agg [.str s, .int .i64 a], .ptr 0 0] (cmdH x.cs) = numT 1000000000 s a fun v => okC ({ x with a := w64 v } : Cmd).cs := by kernel_rfl
theorem wd72_t (s : List UInt8) (a : Int) (x : Cmd) : bX Tryd.f72 [.agg [.str s, .int .i64 a], .ptr 0 0] (cmdH x.cs) = numT 1000000000 s a fun v => okC ({ x with b := w64 v } : Cmd).cs := by kernel_rfl
theorem wd73_t (s : List UInt8) (a : Int) (x : Cmd) : bX Tryd.f73 [.agg [.str s, .int .i64 a], .ptr 0 0] (cmdH x.cs) = numT 65535 s a fun v => okC ({ x with b := w64 v } : Cmd).cs := by kernel_rfl
theorem wd74_t (s : List UInt8) (a : Int) (x : Cmd) : bX Tryd.f74 [.agg [.str s, .int .i64 a], .ptr 0 0] (cmdH x.cs) = numT 9223372036854775807 s a fun v => okC ({ x with d := v } : Cmd).cs := by kernel_rfl
theorem wd75_t (s : List UInt8) (a : Int) (x : Cmd) : bX Tryd.f75 [.agg [.str s, .int .i64 a], .ptr 0 0] (cmdH x.cs) = bif s == sNone then okC ({ x with b := -1 } : Cmd).cs else numT 1000000000 s a fun v => okC ({ x with b := w64 v } : Cmd).cs := by kernel_rfl
theorem wd76_t (s : List UInt8) (a : Int) (x : Cmd) : bX Tryd.f76 [.agg [.str s, .int .i64 a], .ptr 0 0] (cmdH x.cs) = bif !(s == sUp) then bif !(s == sDown) then wdE 19 a else okC ({ x with up := s == sUp } : Cmd).cs else okC ({ x with up := s == sUp } : Cmd).cs := by kernel_rfl
theorem wd77_t (s : List UInt8) (a : Int) (x : Cmd) : bX Tryd.f77 [.agg [.str s, .int .i64 a], .ptr 0 0] (cmdH x.cs) = bif s == sAll then okC ({ x with m := 281474976710655 } : Cmd).cs else bif decide (s.length ≤ 1000000) then bif (pmacV s).2 != 0 then wdE 19 a else okC ({ x with m := (pmacV s).1 } : Cmd).cs else .fail := by kernel_rfl
theorem wd79_t (s : List UInt8) (a : Int) (x : Cmd) : bX Tryd.f79 [.agg [.str s, .int .i64 a], .ptr 0 0] (cmdH x.cs) = bif decide (s.length ≤ 1000000) then bif (pipV s).2 != 0 then wdE 19 a else okC ({ x with i := (pipV s).1 } : Cmd).cs else .fail := by kernel_rfl
theorem wd_num {most : Int} {s : List UInt8} {a : Int} {K : Int → CTree} {r : Int × Cmd} (h : s.length ≤ 1000000) (h1 : 9 ≤ most) (h2 : most ≤ 9223372036854775807) (hr : r.1 = (numV most s).1) (hk : K (numV most s).2 = okC r.2.cs) : crun (numT most s a K) = crun (wdR r a) := by
 rw [numT_eq (numOk_of h h1 h2), hk]
 unfold wdR
 rw [hr]; rfl
theorem wd70_k : KnownX Tryd.prog 70 (wd_s 0) := wd_known Tryd.func70 (by kernel_rfl) (fun s a x h => by
 obtain ⟨r0, r1⟩ := numV_rng (most := 1000000000) (by decide) s
 rw [wd70_t]
 exact wd_num h (by decide) (by decide) rfl (by rw [show w64 (numV 1000000000 s).2 = (numV 1000000000 s).2 from w64_id (by omega) (by omega)]; rfl))
theorem wd72_k : KnownX Tryd.prog 72 (wd_s 1) := wd_known Tryd.func72 (by kernel_rfl) (fun s a x h => by
 obtain ⟨r0, r1⟩ := numV_rng (most := 1000000000) (by decide) s
 rw [wd72_t]
 exact wd_num h (by decide) (by decide) rfl (by rw [show w64 (numV 1000000000 s).2 = (numV 1000000000 s).2 from w64_id (by omega) (by omega)]; rfl))
theorem wd73_k : KnownX Tryd.prog 73 (wd_s 3) := wd_known Tryd.func73 (by kernel_rfl) (fun s a x h => by
 obtain ⟨r0, r1⟩ := numV_rng (most := 65535) (by decide) s
 rw [wd73_t]
 exact wd_num h (by decide) (by decide) rfl (by rw [show w64 (numV 65535 s).2 = (numV 65535 s).2 from w64_id (by omega) (by omega)]; rfl))
theorem wd74_k : KnownX Tryd.prog 74 (wd_s 7) := wd_known Tryd.func74 (by kernel_rfl) (fun s a x h => by
 rw [wd74_t]
 exact wd_num h (by decide) (by decide) rfl rfl)
theorem wd75_k : KnownX Tryd.prog 75 (wd_s 2) := wd_known Tryd.func75 (by kernel_rfl) (fun s a x h => by
 obtain ⟨r0, r1⟩ := numV_rng (most := 1000000000) (by decide) s
 rw [wd75_t]
 by_cases hs : s = sNone
 · rw [show (s == sNone) = true by rw [hs]; rfl, cond_true, show rdW 2 s x = (0, { x with b := -1 }) by simp [rdW, hs]]
   rfl
 · rw [show (s == sNone) = false by simpa using hs, cond_false, show rdW 2 s x = ((numV 1000000000 s).1, { x with b := (numV 1000000000 s).2 }) by simp [rdW, hs]]
   exact wd_num h (by decide) (by decide) rfl (by rw [show w64 (numV 1000000000 s).2 = (numV 1000000000 s).2 from w64_id (by omega) (by omega)]))
theorem wd76_k : KnownX Tryd.prog 76 (wd_s 4) := wd_known Tryd.func76 (by kernel_rfl) (fun s a x h => by
 rw [wd76_t]
 by_cases hs : s = sUp
 · rw [show (s == sUp) = true by rw [hs]; rfl, show rdW 4 s x = (0, { x with up := true }) by simp [rdW, hs]]
   rfl
 · rw [show (s == sUp) = false by simpa using hs]
   by_cases hd : s = sDown
   · rw [show (s == sDown) = true by rw [hd]; rfl, show rdW 4 s x = (0, { x with up := false }) by simp [rdW, hs, hd]; intro e; cases e]
     rfl
   · rw [show (s == sDown) = false by simpa using hd, show rdW 4 s x = (19, x) by simp [rdW, hs, hd]]
     rfl)
theorem wd77_k : KnownX Tryd.prog 77 (wd_s 5) := wd_known Tryd.func77 (by kernel_rfl) (fun s a x h => by
 rw [wd77_t]
 by_cases hs : s = sAll
 · rw [show (s == sAll) = true by rw [hs]; rfl, show rdW 5 s x = (0, { x with m := 281474976710655 }) by simp [rdW, hs]]
   rfl
 · rw [show (s == sAll) = false by simpa using hs, cond_false, decide_eq_true h, cond_true]
   by_cases hp : (pmacV s).2 = 0
   · rw [show rdW 5 s x = (0, { x with m := (pmacV s).1 }) by simp [rdW, hs, hp], hp]
     rfl
   · rw [show ((pmacV s).2 != 0) = true by simpa using hp, show rdW 5 s x = (19, x) by simp [rdW, hs, hp]]
     rfl)
theorem wd79_k : KnownX Tryd.prog 79 (wd_s 6) := wd_known Tryd.func79 (by kernel_rfl) (fun s a x h => by
 rw [wd79_t, decide_eq_true h, cond_true]
 by_cases hp : (pipV s).2 = 0
 · rw [show rdW 6 s x = (0, { x with i := (pipV s).1 }) by simp [rdW, hp], hp]
   rfl
 · rw [show ((pipV s).2 != 0) = true by simpa using hp, show rdW 6 s x = (19, x) by simp [rdW, hp]]
   rfl)
end Go.Proofs.YtpelignoebgkbaaDoor
/- AddrCalls: the reference's Split: its loop. -/
namespace Go.Proofs.YtpelignoebgkbaaDoor
open Go.Am
set_option maxRecDepth 100000
def splR (c : Int) : List UInt8 → List UInt8 → List (List UInt8)
 | [], cur => [cur]
 | x :: xs, cur => bif (x.toNat : Int) == c then cur :: splR c xs [] else splR c xs (cur ++ [x])
def sltOk (s : List UInt8) (es : List SV) (m : Nat) (fr i : Int) : Prop := s.length ≤ 1000000 ∧ m = es.length ∧ 0 ≤ fr ∧ fr ≤ i ∧ i ≤ s.length + 1 ∧ es.length ≤ i
def spE (s : List UInt8) (c : Int) (es : List SV) (fr i : Int) : List SV := bif decide (i ≤ s.length) then es ++ (splR c (s.drop i.toNat) ((s.drop fr.toNat).take (i.toNat - fr.toNat))).map SV.str else es
noncomputable def body72 : Code := Tryd.f9.body.getD .skip
noncomputable def c72 : Code := (loopAt 4 body72).getD .skip
noncomputable def sp_s : CSumm := fun args H => match args, H with
 | [.str s, .int .u8 c, .qs 0 1 0 m, .int .i64 fr, .int .i64 i], [(0, .seq 9 es)] => .ite (dec (sltOk s es m fr i))
   (.ret (.tup [.int .i64 2, .qs 1 1 0 (spE s c es fr i).length]) [(0, none), (1, some (.seq 9 (spE s c es fr i)))]) .fail
 | _, _ => .fail
def spM : List SV → HpL → Nat
 | [.str s, _, _, _, .int _ i], _ => ((s.length : Int) + 1 - i).toNat
 | _, _ => 0
noncomputable def e72 : LEnt := { ins := [0, 1, 5, 6, 7], outs := [5], keep := [], size := 35, code := c72, s := sp_s }
noncomputable def spN (N : Nat) (s : List UInt8) (c : Int) (es : List SV) (m : Nat) (fr i : Int) : CTree :=
 bif Nat.blt ((s.length : Int) + 1 - i).toNat N then bif dec (sltOk s es m fr i) then
  .ret (.tup [.int .i64 2, .qs 1 1 0 (spE s c es fr i).length]) [(0, none), (1, some (.seq 9 (spE s c es fr i)))] else .fail else .fail
noncomputable def lenD (k : Nat) : Bool := decide (k ≤ 9223372036854775807) && decide (k * Tryd.prog.types[9].bytes ≤ 140737488355328)
noncomputable def spA (N : Nat) (s : List UInt8) (c : Int) (es : List SV) (m : Nat) (fr i : Int) : CTree :=
 bif decide (0 ≤ fr) && decide (fr ≤ i) && decide (i ≤ s.length) then bif decide (m = es.length) then bif lenD (es.length + 1) then
  spN N s c (es ++ [.str ((s.drop fr.toNat).take (i.toNat - fr.toNat))]) (es.length + 1) (w64 (i + 1)) (w64 (i + 1)) else .fail else .fail else .fail
theorem sp_t (N : Nat) (s : List UInt8) (c : Int) (es : List SV) (m : Nat) (fr i : Int) : loopOnce Tryd.prog κ0 (fun _ => false) (ltab []) true 300 e72 { e72 with s := boundT spM sp_s N } c72 [.str s, .int .u8 c, .qs 0 1 0 m, .int .i64 fr, .int .i64 i] [(0, .seq 9 es)] =
 bif decide (i ≤ s.length) then bif i == s.length then spA N s c es m fr i else bif inB i s.length then bif ((s.getD i.toNat 0).toNat : Int) == c then spA N s c es m fr i else spN N s c es m fr (w64 (i + 1)) else .fail
 else .ret (.tup [.int .i64 2, .qs 0 1 0 m]) [] := by kernel_rfl
end Go.Proofs.YtpelignoebgkbaaDoor
/- AddrCalls: the reference's Split: its loop, valid. -/
namespace Go.Proofs.YtpelignoebgkbaaDoor
open Go.Am
set_option maxRecDepth 100000
theorem b9 : decide (Tryd.prog.types[9].bytes ≤ 1000) = true := by kernel_rfl
theorem lenD_t {k : Nat} (h : k ≤ 100000000000) : lenD k = true := by
 have h1 := of_decide_eq_true b9
 unfold lenD
 have h2 : k * Tryd.prog.types[9].bytes ≤ 100000000000 * 1000 := Nat.mul_le_mul h h1
 rw [decide_eq_true (by omega), decide_eq_true (by omega)]; rfl
theorem spx_exit {es : List SV} : ChainL Tryd.prog [(0, .seq 9 es)] (.tup [.int .i64 2, .qs 0 1 0 es.length]) [] (.tup [.int .i64 2, .qs 1 1 0 es.length]) [(0, none), (1, some (.seq 9 es))] := by
 refine .ren ⟨0, 1, by simp, by simp [namesS, namesL], fun x c hx => ?_, rfl, fun x => ?_⟩
 · simp only [updF] at hx
   have := HpL_get_some _ _ _ hx
   simp only [List.mem_cons, Prod.mk.injEq, List.not_mem_nil, or_false] at this
   obtain ⟨_, rfl⟩ := this
   simp [namesC]
 · match x with
   | 0 => rfl | 1 => rfl
   | x + 2 => simp only [updF, HpL.get, show ¬ (x + 2 = 1) by omega, show ¬ (x + 2 = 0) by omega, if_false, show Nat.beq 0 (x + 2) = false from nb_f (by omega), cond_false, Option.map_none]
theorem take_more {s : List UInt8} {a b : Nat} (h : a ≤ b) (hb : b < s.length) : (s.drop a).take (b - a) ++ [s.getD b 0] = (s.drop a).take (b + 1 - a) := by
 rw [show b + 1 - a = (b - a) + 1 by omega, List.take_add_one, List.getElem?_drop, show a + (b - a) = b by omega, List.getD_eq_getElem?_getD, List.getElem?_eq_getElem hb]; rfl
theorem spE_hit {s : List UInt8} {c : Int} {es : List SV} {fr i : Nat} (hi : i < s.length) (hc : (((s.getD i 0).toNat : Int) == c) = true) :
  spE s c es fr i = spE s c (es ++ [.str ((s.drop fr).take (i - fr))]) ((i + 1 : Nat) : Int) ((i + 1 : Nat) : Int) := by
 unfold spE
 rw [decide_eq_true (show ((i : Nat) : Int) ≤ s.length by omega), decide_eq_true (show ((i + 1 : Nat) : Int) ≤ s.length by omega), cond_true, cond_true]
 show es ++ (splR c (s.drop i) ((s.drop fr).take (i - fr))).map SV.str = _ ++ (splR c (s.drop (i + 1)) ((s.drop (i + 1)).take (i + 1 - (i + 1)))).map SV.str
 rw [getD_cons hi, splR, hc, cond_true, Nat.sub_self, List.take_zero, List.map_cons, List.append_assoc, List.singleton_append]
theorem spE_end {s : List UInt8} {c : Int} {es : List SV} {fr : Nat} :
  spE s c es fr (s.length : Nat) = spE s c (es ++ [.str ((s.drop fr).take (s.length - fr))]) ((s.length + 1 : Nat) : Int) ((s.length + 1 : Nat) : Int) := by
 unfold spE
 rw [decide_eq_true (show ((s.length : Nat) : Int) ≤ s.length by omega), decide_eq_false (show ¬ ((s.length + 1 : Nat) : Int) ≤ s.length by omega), cond_true, cond_false]
 show es ++ (splR c (s.drop s.length) ((s.drop fr).take (s.length - fr))).map SV.str = _
 rw [List.drop_length]; rfl
theorem spE_miss {s : List UInt8} {c : Int} {es : List SV} {fr i : Nat} (hf : fr ≤ i) (hi : i < s.length) (hc : (((s.getD i 0).toNat : Int) == c) = false) :
  spE s c es fr i = spE s c es fr ((i + 1 : Nat) : Int) := by
 unfold spE
 rw [decide_eq_true (show ((i : Nat) : Int) ≤ s.length by omega), decide_eq_true (show ((i + 1 : Nat) : Int) ≤ s.length by omega), cond_true, cond_true]
 show es ++ (splR c (s.drop i) ((s.drop fr).take (i - fr))).map SV.str = es ++ (splR c (s.drop (i + 1)) ((s.drop fr).take (i + 1 - fr))).map SV.str
 rw [getD_cons hi, splR, hc, cond_false, take_more hf hi]
theorem spA_ok {N : Nat} {s : List UInt8} {c : Int} {es : List SV} {fr i : Nat} (hs : s.length ≤ 1000000) (hf : fr ≤ i) (hi : i ≤ s.length) (he : es.length ≤ i) (hN : s.length + 1 - (i + 1) < N) :
  spA N s c es es.length fr i = .ret (.tup [.int .i64 2, .qs 1 1 0 (spE s c (es ++ [.str ((s.drop fr).take (i - fr))]) ((i + 1 : Nat) : Int) ((i + 1 : Nat) : Int)).length]) [(0, none), (1, some (.seq 9 (spE s c (es ++ [.str ((s.drop fr).take (i - fr))]) ((i + 1 : Nat) : Int) ((i + 1 : Nat) : Int))))] := by
 unfold spA
 rw [slB_ok (a := (fr : Int)) (b := (i : Int)) (n := (s.length : Int)) (by omega) (by omega) (by omega), cond_true, decide_eq_true rfl, cond_true, lenD_t (by omega), cond_true, show w64 ((i : Int) + 1) = ((i + 1 : Nat) : Int) from (w64_id (by omega) (by omega)).trans (by omega)]
 unfold spN
 rw [show Nat.blt ((s.length : Int) + 1 - ((i + 1 : Nat) : Int)).toNat N = true by rw [Nat.blt_eq]; omega, cond_true, dec_iff.2 ⟨hs, by rw [List.length_append, List.length_singleton], by omega, by omega, by omega, by rw [List.length_append, List.length_singleton]; omega⟩, cond_true]
 rfl
theorem sp_valid : ValidL Tryd.prog e72 := loop_valid5 (T := ltab []) (sp := true) (fuel := 300) (c := c72) (μ := spM) mixTry ltab_nil (show fillC (ltab []) c72 = c72 by kernel_rfl) (by
 intro N args H v' ups' hbt hr
 unfold e72 sp_s at hr
 simp only [] at hr
 split at hr
 · rename_i s c m fr i es
   rw [crun_ite] at hr
   cases hc : dec (sltOk s es m fr i) with
   | false => rw [hc] at hr; cases hr
   | true =>
    rw [hc, cond_true] at hr
    obtain ⟨hs, rfl, f0, f1, i1, he⟩ := dec_iff.1 hc
    have hN : Nat.blt ((s.length : Int) + 1 - i).toNat (N + 1) = true := hbt
    rw [Nat.blt_eq] at hN
    refine ⟨κ0, fun _ => false, κ0Ok, ?_⟩
    have ht := sp_t N s c es es.length fr i
    obtain ⟨f, rfl⟩ := Int.eq_ofNat_of_zero_le f0
    obtain ⟨k, rfl⟩ := Int.eq_ofNat_of_zero_le (show 0 ≤ i by omega)
    by_cases hi : (k : Int) ≤ s.length
    · rw [decide_eq_true hi, cond_true] at ht
      by_cases h2 : k = s.length
      · subst h2
        rw [show (((s.length : Nat) : Int) == (s.length : Int)) = true by simp, cond_true, spA_ok hs (by omega) (Nat.le_refl _) (by omega) (by omega)] at ht
        rw [spE_end] at hr
        exact ⟨v', ups', (congrArg crun ht).trans hr, .same fun _ => rfl⟩
      · rw [show ((k : Int) == (s.length : Int)) = false by rw [beq_eq_false_iff_ne]; omega, cond_false, inB_ok (by omega) (by omega), cond_true, show ((k : Nat) : Int).toNat = k from rfl] at ht
        cases h3 : ((s.getD k 0).toNat : Int) == c with
        | true =>
         rw [h3, cond_true, spA_ok hs (by omega) (by omega) (by omega) (by omega)] at ht
         rw [spE_hit (by omega) h3] at hr
         exact ⟨v', ups', (congrArg crun ht).trans hr, .same fun _ => rfl⟩
        | false =>
         rw [h3, cond_false, show w64 ((k : Int) + 1) = ((k + 1 : Nat) : Int) from (w64_id (by omega) (by omega)).trans (by omega)] at ht
         unfold spN at ht
         rw [show Nat.blt ((s.length : Int) + 1 - ((k + 1 : Nat) : Int)).toNat N = true by rw [Nat.blt_eq]; omega, cond_true, dec_iff.2 ⟨hs, rfl, by omega, by omega, by omega, by omega⟩, cond_true] at ht
         rw [spE_miss (by omega) (by omega) h3] at hr
         exact ⟨v', ups', (congrArg crun ht).trans hr, .same fun _ => rfl⟩
    · rw [decide_eq_false hi, cond_false] at ht
      have : spE s c es f k = es := by unfold spE; rw [decide_eq_false hi, cond_false]
      rw [this] at hr
      cases hr
      exact ⟨_, _, congrArg crun ht, spx_exit⟩
 · cases hr)
end Go.Proofs.YtpelignoebgkbaaDoor
/- AddrCalls: the reference's Split, known; what it is by what stands before the first of a byte. -/
namespace Go.Proofs.YtpelignoebgkbaaDoor
open Go.Am
set_option maxRecDepth 100000
abbrev fs72 : List (Option (Nat × Nat)) := [none, none, some (9, 1), none, none]
noncomputable def e72j : LEnt := { e72 with s := inN fs72 sp_s }
theorem sp_in : ValidL Tryd.prog e72j := loop_inN sp_valid (fs := fs72)
noncomputable abbrev T72 : LTab := ltab [("s", e72j)]
noncomputable abbrev m72 : Code := markC [(4, "s")] body72
noncomputable def spl_b : CSumm := bodyCL Tryd.prog κ0 (fun _ => false) T72 true 300 Tryd.f9 m72
theorem spl_k0 : Known Tryd.prog 9 spl_b := ⟨⟨Tryd.f9, Tryd.func9, noNum_at noNumTry Tryd.func9, rfl⟩, bodyL_valid κ0Ok mixTry (ltab_cons sp_in ltab_nil) Tryd.func9 (show Tryd.f9.body = some (fillC T72 m72) by kernel_rfl)⟩
theorem spl_t (s : List UInt8) (c : Int) : spl_b [.str s, .int .u8 c] [] = bif dec (sltOk s [] 0 0 0) then .ret (.qs 0 1 0 (spE s c [] 0 0).length) [(0, some (.seq 9 (spE s c [] 0 0)))] else .fail := by kernel_rfl
def spl (c : Int) (s : List UInt8) : List (List UInt8) := splR c s []
noncomputable def spl_s : CSumm := fun args H => match args, H with
 | [.str s, .int .u8 c], [] => .ite (decide (s.length ≤ 1000000)) (.ret (.psl 9 ((spl c s).map SV.str)) []) .fail
 | _, _ => .fail
theorem spl_k : Known Tryd.prog 9 spl_s := known_told spl_k0 (by
 intro args H v' ups' h
 unfold spl_s at h
 split at h
 · rename_i s c
   rw [crun_ite, cond_eq_ite] at h
   split at h
   · rename_i hc
     have hs := of_decide_eq_true hc
     have ht := spl_t s c
     have he : spE s c [] 0 0 = (spl c s).map SV.str := by
      unfold spE spl
      rw [decide_eq_true (by omega), cond_true]
      rfl
     rw [dec_iff.2 ⟨hs, rfl, Int.le_refl _, Int.le_refl _, by omega, by simp⟩, cond_true, he] at ht
     cases h
     refine ⟨_, _, congrArg crun ht, .inl ⟨0, 9, _, rfl, .qs rfl, fun x c' hx => ?_⟩⟩
     simp [updF, HpL.get] at hx
   · cases h
 · cases h)
theorem splR_cut (c : UInt8) : ∀ (s cur : List UInt8), splR (c.toNat : Int) s cur = (cur ++ (cutF c s).1) :: (bif (cutF c s).2.2 then splR (c.toNat : Int) (cutF c s).2.1 [] else [])
 | [], cur => by unfold splR cutF; simp
 | x :: xs, cur => by
  rw [splR, cutF]
  have : (((x.toNat : Nat) : Int) == (c.toNat : Int)) = (x == c) := by
   rw [Bool.eq_iff_iff, beq_iff_eq, beq_iff_eq]
   constructor
   · intro e; apply UInt8.toNat_inj.1; omega
   · intro e; rw [e]
  rw [this]
  cases x == c with
  | true => simp
  | false =>
   rw [cond_false, cond_false, splR_cut c xs]
   simp
theorem spl_cut (c : UInt8) (s : List UInt8) : spl (c.toNat : Int) s = (cutF c s).1 :: (bif (cutF c s).2.2 then spl (c.toNat : Int) (cutF c s).2.1 else []) := splR_cut c s []
end Go.Proofs.YtpelignoebgkbaaDoor
