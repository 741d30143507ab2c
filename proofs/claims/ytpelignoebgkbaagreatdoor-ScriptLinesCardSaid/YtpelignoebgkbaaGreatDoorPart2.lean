/- Small decimal numbers are written: what the library's tables come to. -/
import Derived.Test.YtpelignoebgkbaaGreatDoorPart1
import Derived.Test.YtpelignoebgkbaaGreatDoorMachine6
set_option linter.unusedVariables false
set_option linter.unusedSimpArgs false
namespace Go.Proofs.YtpelignoebgkbaaGreatDoor
open Go.Am
set_option maxRecDepth 100000
def eqUp : List (Nat × Option Chunk) → List (Nat × Option Chunk) → Bool
 | [], [] => true
 | (x, some c) :: l, (y, some d) :: m => Nat.beq x y && eqCh c d && eqUp l m
 | _, _ => false
theorem eqUp_eq : ∀ {a b : List (Nat × Option Chunk)}, eqUp a b = true → a = b
 | [], [], _ => rfl
 | [], _ :: _, h => by simp [eqUp] at h
 | (x, some c) :: l, [], h => by simp [eqUp] at h
 | (x, none) :: l, m, h => by cases m <;> simp [eqUp] at h
 | (x, some c) :: l, (y, none) :: m, h => by simp [eqUp] at h
 | (x, some c) :: l, (y, some d) :: m, h => by
  simp only [eqUp, Bool.and_eq_true] at h
  rw [Nat.eq_of_beq_eq_true h.1.1, eqCh_eq h.1.2, eqUp_eq h.2]
def eqR (v : SV) (ups : List (Nat × Option Chunk)) : Option (SV × List (Nat × Option Chunk)) → Bool
 | some (w, u) => eqSV v w && eqUp ups u
 | none => false
theorem eqR_eq {v : SV} {ups : List (Nat × Option Chunk)} {r : Option (SV × List (Nat × Option Chunk))} (h : eqR v ups r = true) : r = some (v, ups) := by
 unfold eqR at h
 split at h
 · simp only [Bool.and_eq_true] at h
   rw [← eqSV_eq h.1, ← eqUp_eq h.2]
 · cases h
theorem nd_all : ((List.range 156).all fun k => eqR (.int .i64 3) [] (crun (opn (tbl []) Tryz.f73 [.int .u64 ((100 + k : Nat) : Int)] []))) = true := by kernel_rfl
noncomputable def nd_s : CSumm := fun args H => match args, H with
 | [.int .u64 v], [] => .ite (decide (100 ≤ v ∧ v ≤ 255)) (.ret (.int .i64 3) []) .fail
 | _, _ => .fail
theorem nd_k : Known Tryz.prog 73 nd_s := (openKnown ok0 Tryz.func73 rfl).weak (by
 intro args H v ups h
 unfold nd_s at h
 split at h
 · rename_i n
   rw [crun_ite, cond_eq_ite] at h
   split at h
   · rename_i hc
     obtain ⟨h0, h1⟩ := of_decide_eq_true hc
     have := List.all_eq_true.1 nd_all (n - 100).toNat (List.mem_range.2 (by omega))
     rw [show ((100 + (n - 100).toNat : Nat) : Int) = n by omega] at this
     exact (eqR_eq this).trans h
   · cases h
 · cases h)
def zs24 : List SV := List.replicate 24 (.int .u8 0)
def d3 (v : Int) : List SV := [.int .u8 (48 + v / 100), .int .u8 (48 + v / 10 % 10), .int .u8 (48 + v % 10)]
theorem fb_all : ((List.range 156).all fun k => eqR (.tup []) [(0, some (.cells 107 (d3 ((100 + k : Nat) : Int) ++ List.replicate 21 (.int .u8 0))))] (crun (opn (tbl []) Tryz.f74 [.sl 0 1 0 3, .int .u64 ((100 + k : Nat) : Int)] [(0, .cells 107 zs24)]))) = true := by kernel_rfl
noncomputable def fb_s : CSumm := fun args H => match args, H with
 | [.sl 0 1 0 3, .int .u64 v], [(0, .cells 107 cs)] => .ite (dec (cs = zs24 ∧ 100 ≤ v ∧ v ≤ 255)) (.ret (.tup []) [(0, some (.cells 107 (d3 v ++ List.replicate 21 (.int .u8 0))))]) .fail
 | _, _ => .fail
theorem fb_k : Known Tryz.prog 74 fb_s := (openKnown ok0 Tryz.func74 rfl).weak (by
 intro args H v ups h
 unfold fb_s at h
 split at h
 · rename_i n cs
   rw [crun_ite] at h
   cases hc : dec (cs = zs24 ∧ 100 ≤ n ∧ n ≤ 255) with
   | false => rw [hc] at h; cases h
   | true =>
    rw [hc, cond_true] at h
    obtain ⟨rfl, h0, h1⟩ := dec_iff.1 hc
    have := List.all_eq_true.1 fb_all (n - 100).toNat (List.mem_range.2 (by omega))
    rw [show ((100 + (n - 100).toNat : Nat) : Int) = n by omega] at this
    exact (eqR_eq this).trans h
 · cases h)
end Go.Proofs.YtpelignoebgkbaaGreatDoor
/- Small decimal numbers are written. -/
namespace Go.Proofs.YtpelignoebgkbaaGreatDoor
open Go.Am
set_option maxRecDepth 100000
def chD (n : Int) : UInt8 := UInt8.ofNat (48 + n).toNat
def dcB (v : Int) : List UInt8 := bif decide (v < 10) then [chD v] else bif decide (v < 100) then [chD (v / 10), chD (v % 10)] else [chD (v / 100), chD (v / 10 % 10), chD (v % 10)]
theorem small_all : ((List.range 100).all fun k => eqR (.str (dcB (k : Nat))) [] (crun (opn (tbl []) Tryz.f72 [.int .i64 ((k : Nat) : Int)] []))) = true := by kernel_rfl
noncomputable def small_s : CSumm := fun args H => match args, H with
 | [.int .i64 v], [] => .ite (decide (0 ≤ v ∧ v < 100)) (.ret (.str (dcB v)) []) .fail
 | _, _ => .fail
theorem small_k : Known Tryz.prog 72 small_s := (openKnown ok0 Tryz.func72 rfl).weak (by
 intro args H v ups h
 unfold small_s at h
 split at h
 · rename_i n
   rw [crun_ite, cond_eq_ite] at h
   split at h
   · rename_i hc
     obtain ⟨h0, h1⟩ := of_decide_eq_true hc
     have := List.all_eq_true.1 small_all n.toNat (List.mem_range.2 (by omega))
     rw [show ((n.toNat : Nat) : Int) = n by omega] at this
     exact (eqR_eq this).trans h
   · cases h
 · cases h)
noncomputable def lenO (k : Nat) : Bool := decide (k ≤ 9223372036854775807) && decide (k * Tryz.prog.types[5].bytes ≤ 140737488355328)
theorem lenO_t {k : Nat} (h : k ≤ 1000000) : lenO k = true := by
 have hb : Tryz.prog.types[5].bytes = 1 := by kernel_rfl
 unfold lenO
 rw [hb, decide_eq_true (by omega), decide_eq_true (by omega)]; rfl
noncomputable def grC (es news : List SV) (K : Nat → List SV → CTree) : CTree := bif lenO (es.length + news.length) then K (es.length + news.length) (es ++ news) else .fail
noncomputable def auC (v : Int) (G : List SV → CTree) : CTree :=
 bif decide (v < 100) then bif decide (0 ≤ w64 v ∧ w64 v < 100) then G ((dcB (w64 v)).map byteSV) else .fail
 else bif decide (100 ≤ v ∧ v ≤ 255) then bif dec (zs24 = zs24 ∧ 100 ≤ v ∧ v ≤ 255) then G (d3 v) else .fail else .fail
noncomputable abbrev κau := tbl [(72, small_s), (73, nd_s), (74, fb_s), (75, noS)]
theorem auOk : KOk Tryz.prog κau := tbl_cons small_k (tbl_cons nd_k (tbl_cons fb_k (tbl_cons (no_k Tryz.func75 rfl) ok0)))
theorem au_t1 (v : Int) : opn κau Tryz.f71 [.nils, .int .u64 v, .int .i64 10] [] = auC v fun news => grC [] news fun n es => .ret (.qs 0 1 0 n) [(0, some (.seq 5 es))] := by kernel_rfl
theorem au_t2 (m : Nat) (xs : List SV) (v : Int) : opn κau Tryz.f71 [.qs 0 1 0 m, .int .u64 v, .int .i64 10] [(0, .seq 5 xs)] = auC v fun news => bif decide (m = xs.length) then grC xs news fun n es => .ret (.qs 1 1 0 n) [(0, none), (1, some (.seq 5 es))] else .fail := by kernel_rfl
end Go.Proofs.YtpelignoebgkbaaGreatDoor
/- Addresses are written. -/
namespace Go.Proofs.YtpelignoebgkbaaGreatDoor
open Go.Am
set_option maxRecDepth 100000
theorem chD_nat {n : Int} (h0 : 0 ≤ n) (h1 : n ≤ 9) : ((chD n).toNat : Int) = 48 + n := by
 unfold chD
 rw [UInt8.toNat_ofNat']
 omega
theorem byteSV_chD {n : Int} (h0 : 0 ≤ n) (h1 : n ≤ 9) : byteSV (chD n) = .int .u8 (48 + n) := by
 unfold byteSV; rw [chD_nat h0 h1]
theorem d3_eq {v : Int} (h0 : 100 ≤ v) (h1 : v ≤ 255) : d3 v = (dcB v).map byteSV := by
 unfold d3 dcB
 rw [decide_eq_false (by omega), cond_false, decide_eq_false (by omega), cond_false]
 simp only [List.map_cons, List.map_nil]
 rw [byteSV_chD (by omega) (by omega), byteSV_chD (by omega) (by omega), byteSV_chD (by omega) (by omega)]
theorem auC_ok {v : Int} (h0 : 0 ≤ v) (h1 : v ≤ 255) (G : List SV → CTree) : auC v G = G ((dcB v).map byteSV) := by
 unfold auC
 by_cases h : v < 100
 · rw [decide_eq_true h, cond_true, show w64 v = v from w64_id (by omega) (by omega), decide_eq_true ⟨h0, h⟩]; rfl
 · rw [decide_eq_false h, cond_false, decide_eq_true (show 100 ≤ v ∧ v ≤ 255 by omega), cond_true, dec_iff.2 ⟨rfl, by omega, h1⟩, cond_true, d3_eq (by omega) h1]
theorem dcB_len (v : Int) : (dcB v).length ≤ 3 := by
 unfold dcB
 cases decide (v < 10) <;> cases decide (v < 100) <;> simp
noncomputable def au_s : CSumm := fun args H => match args, H with
 | [.nils, .int .u64 v, .int .i64 10], [] => .ite (decide (0 ≤ v ∧ v ≤ 255)) (.ret (.qs 0 1 0 (dcB v).length) [(0, some (.seq 5 ((dcB v).map byteSV)))]) .fail
 | [.qs 0 1 0 m, .int .u64 v, .int .i64 10], [(0, .seq 5 xs)] => .ite (dec (m = xs.length ∧ xs.length ≤ 1000 ∧ 0 ≤ v ∧ v ≤ 255)) (.ret (.qs 1 1 0 (xs.length + (dcB v).length)) [(0, none), (1, some (.seq 5 (xs ++ (dcB v).map byteSV)))]) .fail
 | _, _ => .fail
theorem au_k0 : Known Tryz.prog 71 au_s := (openKnown auOk Tryz.func71 rfl).weak (by
 intro args H v ups h
 have hl := dcB_len
 unfold au_s at h
 split at h
 · rename_i n
   rw [crun_ite, cond_eq_ite] at h
   split at h
   · rename_i hc
     obtain ⟨h0, h1⟩ := of_decide_eq_true hc
     refine (congrArg crun (au_t1 n)).trans ?_
     rw [auC_ok h0 h1]
     unfold grC
     have := hl n
     rw [List.length_nil, Nat.zero_add, List.length_map, lenO_t (by omega), cond_true, List.nil_append]
     exact h
   · cases h
 · rename_i m n xs
   rw [crun_ite] at h
   cases hc : dec (m = xs.length ∧ xs.length ≤ 1000 ∧ 0 ≤ n ∧ n ≤ 255) with
   | false => rw [hc] at h; cases h
   | true =>
    rw [hc, cond_true] at h
    obtain ⟨rfl, hx, h0, h1⟩ := dec_iff.1 hc
    refine (congrArg crun (au_t2 xs.length xs n)).trans ?_
    rw [auC_ok h0 h1, decide_eq_true rfl, cond_true]
    unfold grC
    have := hl n
    rw [List.length_map, lenO_t (by omega), cond_true]
    exact h
 · cases h)
noncomputable def au0 (v : Int) (K : Nat → List SV → CTree) : CTree := bif decide (0 ≤ v ∧ v ≤ 255) then K (dcB v).length ((dcB v).map byteSV) else .fail
noncomputable def auN (m : Nat) (xs : List SV) (v : Int) (K : Nat → List SV → CTree) : CTree := bif dec (m = xs.length ∧ xs.length ≤ 1000 ∧ 0 ≤ v ∧ v ≤ 255) then K (xs.length + (dcB v).length) (xs ++ (dcB v).map byteSV) else .fail
theorem au1_t1 (v : Int) : opn (tbl [(71, au_s)]) Tryz.f45 [.nils, .int .u64 v, .int .i64 10] [] = au0 v fun n es => .ret (.qs 0 1 0 n) [(0, some (.seq 5 es))] := by kernel_rfl
theorem au1_t2 (m : Nat) (xs : List SV) (v : Int) : opn (tbl [(71, au_s)]) Tryz.f45 [.qs 0 1 0 m, .int .u64 v, .int .i64 10] [(0, .seq 5 xs)] = auN m xs v fun n es => .ret (.qs 1 1 0 n) [(0, none), (1, some (.seq 5 es))] := by kernel_rfl
theorem au_k : Known Tryz.prog 45 au_s := (openKnown (tbl_cons au_k0 ok0) Tryz.func45 rfl).weak (by
 intro args H v ups h
 unfold au_s at h
 split at h
 · rename_i n
   rw [crun_ite] at h
   refine (congrArg crun (au1_t1 n)).trans ?_
   unfold au0
   rw [crun_cond]
   exact h
 · rename_i m n xs
   rw [crun_ite] at h
   refine (congrArg crun (au1_t2 m xs n)).trans ?_
   unfold auN
   rw [crun_cond]
   exact h
 · cases h)
noncomputable def dotC (m : Nat) (xs : List SV) (K : Nat → List SV → CTree) : CTree := bif decide (m = xs.length) then grC xs [.int .u8 46] K else .fail
theorem dotC_ok {xs : List SV} (hx : xs.length ≤ 1000) {K : Nat → List SV → CTree} : dotC xs.length xs K = K (xs ++ [SV.int .u8 46]).length (xs ++ [SV.int .u8 46]) := by
 unfold dotC grC; rw [decide_eq_true rfl, cond_true, List.length_singleton, lenO_t (by omega), cond_true, List.length_append, List.length_singleton]
theorem auN_ok {xs : List SV} {v : Int} (hx : xs.length ≤ 1000) (h0 : 0 ≤ v) (h1 : v ≤ 255) {K : Nat → List SV → CTree} : auN xs.length xs v K = K (xs ++ (dcB v).map byteSV).length (xs ++ (dcB v).map byteSV) := by
 unfold auN; rw [dec_iff.2 ⟨rfl, hx, h0, h1⟩, cond_true, List.length_append, List.length_map]
def strC (n : Nat) (B : List SV) (K : List UInt8 → CTree) : CTree := bif decide (0 = 0) && decide (n = B.length) then K (B.map Am.byteOf) else bif decide (0 + n ≤ B.length) then K (((B.drop 0).take n).map Am.byteOf) else .fail
def octI (ip : Int) (k : Nat) : Int := wu64 (andI .u32 (ip.fdiv (2 ^ k)) 255)
theorem ipt_t (ip : Int) : opn (tbl [(45, au_s)]) Tryz.f28 [.int .u32 ip] [] = au0 (octI ip 24) fun n es => dotC n es fun n es => auN n es (octI ip 16) fun n es => dotC n es fun n es => auN n es (octI ip 8) fun n es => dotC n es fun n es => auN n es (octI ip 0) fun n es => strC n es fun t => .ret (.str t) [] := by kernel_rfl
def ipB (ip : Int) : List UInt8 := dcB (octI ip 24) ++ 46 :: (dcB (octI ip 16) ++ 46 :: (dcB (octI ip 8) ++ 46 :: dcB (octI ip 0)))
theorem byteOf_SV (b : UInt8) : Am.byteOf (byteSV b) = b := by
 show UInt8.ofNat ((b.toNat : Int).toNat) = b
 simp
theorem map_SV (l : List UInt8) : (l.map byteSV).map Am.byteOf = l := by
 rw [List.map_map]
 have : (Am.byteOf ∘ byteSV) = id := by funext b; exact byteOf_SV b
 rw [this, List.map_id]
theorem byteOf_46 : Am.byteOf (.int .u8 46) = 46 := rfl
noncomputable def ipt_s : CSumm := fun args H => match args, H with
 | [.int .u32 ip], [] => .ite (dec (∀ k, 0 ≤ octI ip k ∧ octI ip k ≤ 255)) (.ret (.str (ipB ip)) []) .fail
 | _, _ => .fail
theorem ipt_k : Known Tryz.prog 28 ipt_s := (openKnown (tbl_cons au_k ok0) Tryz.func28 rfl).weak (by
 intro args H v ups h
 unfold ipt_s at h
 split at h
 · rename_i ip
   rw [crun_ite] at h
   cases hc : dec (∀ k, 0 ≤ octI ip k ∧ octI ip k ≤ 255) with
   | false => rw [hc] at h; cases h
   | true =>
    rw [hc, cond_true] at h
    have ho := dec_iff.1 hc
    refine (congrArg crun (ipt_t ip)).trans ?_
    rw [← h]
    unfold ipB
    obtain ⟨a0, a1⟩ := ho 24; obtain ⟨b0, b1⟩ := ho 16; obtain ⟨c0, c1⟩ := ho 8; obtain ⟨d0, d1⟩ := ho 0
    have la := dcB_len (octI ip 24); have lb := dcB_len (octI ip 16); have lc := dcB_len (octI ip 8); have ld := dcB_len (octI ip 0)
    generalize octI ip 24 = a at *
    generalize octI ip 16 = b at *
    generalize octI ip 8 = c at *
    generalize octI ip 0 = d at *
    unfold au0
    rw [decide_eq_true ⟨a0, a1⟩, cond_true]
    dsimp only
    rw [show (dcB a).length = ((dcB a).map byteSV).length from (List.length_map _).symm]
    have x1 : ((dcB a).map byteSV).length ≤ 3 := by rw [List.length_map]; exact la
    have x2 : ((dcB b).map byteSV).length ≤ 3 := by rw [List.length_map]; exact lb
    have x3 : ((dcB c).map byteSV).length ≤ 3 := by rw [List.length_map]; exact lc
    have x4 : ((dcB d).map byteSV).length ≤ 3 := by rw [List.length_map]; exact ld
    rw [dotC_ok (by omega), auN_ok (by simp only [List.length_append, List.length_singleton]; omega) b0 b1, dotC_ok (by simp only [List.length_append, List.length_singleton]; omega), auN_ok (by simp only [List.length_append, List.length_singleton]; omega) c0 c1,
     dotC_ok (by simp only [List.length_append, List.length_singleton]; omega), auN_ok (by simp only [List.length_append, List.length_singleton]; omega) d0 d1]
    unfold strC
    rw [decide_eq_true rfl, decide_eq_true rfl, Bool.and_self, cond_true]
    simp only [List.map_append, map_SV, List.map_cons, List.map_nil, byteOf_46, List.append_assoc, List.cons_append, List.nil_append]
 · cases h)
end Go.Proofs.YtpelignoebgkbaaGreatDoor
/- Addresses are parsed, known. -/
namespace Go.Proofs.YtpelignoebgkbaaGreatDoor
open Go.Am
set_option maxRecDepth 100000
def spF (rd : List UInt8 → Int × Bool) (c : UInt8) : Nat → List UInt8 → Option (List Int)
 | 0, _ => none
 | m + 1, s => bif !(rd (cutF c s).1).2 then none else bif !(cutF c s).2.2 then (match m with | 0 => some [(rd (cutF c s).1).1] | _ + 1 => none) else
   match spF rd c m (cutF c s).2.1 with | some l => some ((rd (cutF c s).1).1 :: l) | none => none
theorem cutF_len (c : UInt8) (s : List UInt8) : (cutF c s).1.length ≤ s.length ∧ (cutF c s).2.1.length ≤ s.length := by
 rcases cutF_idx c s with ⟨_, h⟩ | ⟨k, _, hk, h⟩
 · rw [h]; exact ⟨Nat.le_refl _, Nat.zero_le _⟩
 · rw [h]
   refine ⟨?_, ?_⟩
   · show (s.take k).length ≤ _; rw [List.length_take]; omega
   · show (s.drop (k + 1)).length ≤ _; rw [List.length_drop]; omega
theorem spC_ok {rd : List UInt8 → Int × Bool} {c : UInt8} {K : List Int → CTree} {F : CTree} : ∀ (m : Nat) (s : List UInt8) (acc : List Int), s.length ≤ 1000000 → spC rd c m s acc K F = match spF rd c m s with | some l => K (acc ++ l) | none => F
 | 0, s, acc, h => by
  obtain ⟨h1, h2⟩ := cutF_len c s
  unfold spC spF
  rw [decide_eq_true h, cond_true, decide_eq_true (by omega), cond_true]
  cases !(rd (cutF c s).1).2 <;> rfl
 | m + 1, s, acc, h => by
  obtain ⟨h1, h2⟩ := cutF_len c s
  unfold spC spF
  rw [decide_eq_true h, cond_true, decide_eq_true (show (cutF c s).1.length ≤ 1000000 by omega), cond_true]
  cases !(rd (cutF c s).1).2 with
  | true => rfl
  | false =>
   rw [cond_false, cond_false, cond_false]
   cases !(cutF c s).2.2 with
   | true => cases m <;> rfl
   | false =>
    rw [cond_false, cond_false, spC_ok m _ _ (by omega)]
    cases spF rd c m (cutF c s).2.1 with
    | none => rfl
    | some l => simp
def pipV (s : List UInt8) : Int × Int := match spF (decF 255) 46 4 s with | some l => (ipO l, 0) | none => (0, 19)
def pmacV (s : List UInt8) : Int × Int := match spF hexF 58 6 s with | some l => (macO l, 0) | none => (0, 19)
noncomputable def pip_s : CSumm := fun args H => match args, H with
 | [.str s], [] => .ite (decide (s.length ≤ 1000000)) (.ret (.tup [.int .u32 (pipV s).1, .int .i64 (pipV s).2]) []) .fail
 | _, _ => .fail
noncomputable def pmac_s : CSumm := fun args H => match args, H with
 | [.str s], [] => .ite (decide (s.length ≤ 1000000)) (.ret (.tup [.int .u64 (pmacV s).1, .int .i64 (pmacV s).2]) []) .fail
 | _, _ => .fail
theorem pip_k : Known Tryz.prog 64 pip_s := (openKnown spOk Tryz.func64 rfl).weak (by
 intro args H v ups h
 unfold pip_s at h
 split at h
 · rename_i s
   rw [crun_ite, cond_eq_ite] at h
   split at h
   · rename_i hc
     refine (congrArg crun (pip_t s)).trans ?_
     rw [spC_ok 4 s [] (of_decide_eq_true hc), ← h]
     unfold pipV
     cases spF (decF 255) 46 4 s <;> rfl
   · cases h
 · cases h)
theorem pmac_k : Known Tryz.prog 62 pmac_s := (openKnown spOk Tryz.func62 rfl).weak (by
 intro args H v ups h
 unfold pmac_s at h
 split at h
 · rename_i s
   rw [crun_ite, cond_eq_ite] at h
   split at h
   · rename_i hc
     refine (congrArg crun (pmac_t s)).trans ?_
     rw [spC_ok 6 s [] (of_decide_eq_true hc), ← h]
     unfold pmacV
     cases spF hexF 58 6 s <;> rfl
   · cases h
 · cases h)
end Go.Proofs.YtpelignoebgkbaaGreatDoor
/- Addresses are written, known. -/
namespace Go.Proofs.YtpelignoebgkbaaGreatDoor
open Go.Am
set_option maxRecDepth 100000
/- Groups written. -/
theorem and15 : ((List.range 256).all fun k => decide (0 ≤ loD ((k : Nat) : Int) ∧ loD ((k : Nat) : Int) = ((k % 16 : Nat) : Int) ∧ hiD ((k : Nat) : Int) = ((k / 16 : Nat) : Int))) = true := by kernel_rfl
theorem nib {x : Int} (h0 : 0 ≤ x) (h1 : x ≤ 255) : loD x = x % 16 ∧ hiD x = x / 16 := by
 have := List.all_eq_true.1 and15 x.toNat (List.mem_range.2 (by omega))
 rw [show ((x.toNat : Nat) : Int) = x by omega] at this
 obtain ⟨_, h2, h3⟩ := of_decide_eq_true this
 rw [h2, h3]; omega
def bytesI (l : List Int) : Prop := ∀ x ∈ l, 0 ≤ x ∧ x ≤ 255
theorem pairsC_ok {K : CTree} : ∀ {l : List Int}, bytesI l → pairsC l K = K
 | [], _ => rfl
 | x :: r, h => by
  obtain ⟨h0, h1⟩ := h x (by simp)
  obtain ⟨e1, e2⟩ := nib h0 h1
  have hf : figs.length = 16 := rfl
  unfold pairsC
  rw [e1, e2, hf, inB_ok (by omega) (by omega), cond_true, inB_ok (by omega) (by omega), cond_true]
  exact pairsC_ok (fun y hy => h y (by simp [hy]))
theorem w8_rng (n : Int) : 0 ≤ w8 n ∧ w8 n ≤ 255 := by
 simp [IntKind.wrap, IntKind.bits, IntKind.signed]; omega
theorem macL_bytes (m : Int) : bytesI (macL m) := by
 intro x hx
 simp only [macL, List.mem_cons, List.not_mem_nil, or_false] at hx
 rcases hx with rfl | rfl | rfl | rfl | rfl | rfl <;> exact w8_rng _
def mactV (m : Int) : List UInt8 × Int := bif decide (m > 281474976710655) then ([], 2) else (pairsL (macL m), 0)
noncomputable def mact_s : CSumm := fun args H => match args, H with
 | [.int .u64 m], [] => .ret (.tup [.str (mactV m).1, .int .i64 (mactV m).2]) []
 | _, _ => .fail
theorem mact_k : Known Tryz.prog 44 mact_s := (openKnown ok0 Tryz.func44 rfl).weak (by
 intro args H v ups h
 unfold mact_s at h
 split at h
 · rename_i m
   refine (congrArg crun (mact_t m)).trans ?_
   rw [pairsC_ok (macL_bytes m), ← h]
   unfold mactV
   cases decide (m > 281474976710655) <;> rfl
 · cases h)
end Go.Proofs.YtpelignoebgkbaaGreatDoor
/- Addresses: arithmetic. -/
namespace Go.Proofs.YtpelignoebgkbaaGreatDoor
open Go.Am
set_option maxRecDepth 100000
/- Addresses and their bytes: arithmetic. -/
theorem ofInt_nat {k n : Nat} (h : n < 2 ^ k) : (BitVec.ofInt k (n : Int)).toNat = n := by
 rw [BitVec.toNat_ofInt]
 have h1 : ((n : Int) % ((2 ^ k : Nat) : Int)).toNat = n % 2 ^ k := by
  rw [← Int.natCast_emod]; rfl
 rw [h1, Nat.mod_eq_of_lt h]
theorem or_nat {a b : Nat} (hb : b < 256) : (a * 256) ||| b = a * 256 + b := by
 have := Nat.two_pow_add_eq_or_of_lt (i := 8) (b := b) (by omega) a
 rw [Nat.mul_comm a 256]
 exact this.symm
theorem shO32 {a b : Int} (a0 : 0 ≤ a) (b0 : 0 ≤ b) (b1 : b < 256) (h : a * 256 + b < 4294967296) : shO .u32 a b = a * 256 + b := by
 obtain ⟨x, rfl⟩ := Int.eq_ofNat_of_zero_le a0
 obtain ⟨y, rfl⟩ := Int.eq_ofNat_of_zero_le b0
 have w : ∀ n : Int, 0 ≤ n → n < 4294967296 → IntKind.u32.wrap n = n := fun n h0 h1 => by simp [IntKind.wrap, IntKind.bits, IntKind.signed]; omega
 unfold shO orI
 rw [w ((x : Int) * 256) (by omega) (by omega), w (y : Int) (by omega) (by omega), BitVec.toNat_or]
 have e1 : (BitVec.ofInt IntKind.u32.bits ((x : Int) * 256)).toNat = x * 256 := by
  rw [show ((x : Int) * 256) = ((x * 256 : Nat) : Int) by omega]
  exact ofInt_nat (k := 32) (by omega)
 have e2 : (BitVec.ofInt IntKind.u32.bits (y : Int)).toNat = y := ofInt_nat (k := 32) (by omega)
 rw [e1, e2, or_nat (by omega), w _ (by omega) (by omega)]
 omega
theorem shO64 {a b : Int} (a0 : 0 ≤ a) (b0 : 0 ≤ b) (b1 : b < 256) (h : a * 256 + b < 18446744073709551616) : shO .u64 a b = a * 256 + b := by
 obtain ⟨x, rfl⟩ := Int.eq_ofNat_of_zero_le a0
 obtain ⟨y, rfl⟩ := Int.eq_ofNat_of_zero_le b0
 have w : ∀ n : Int, 0 ≤ n → n < 18446744073709551616 → IntKind.u64.wrap n = n := fun n h0 h1 => by simp [IntKind.wrap, IntKind.bits, IntKind.signed]; omega
 unfold shO orI
 rw [w ((x : Int) * 256) (by omega) (by omega), w (y : Int) (by omega) (by omega), BitVec.toNat_or]
 have e1 : (BitVec.ofInt IntKind.u64.bits ((x : Int) * 256)).toNat = x * 256 := by
  rw [show ((x : Int) * 256) = ((x * 256 : Nat) : Int) by omega]
  exact ofInt_nat (k := 64) (by omega)
 have e2 : (BitVec.ofInt IntKind.u64.bits (y : Int)).toNat = y := ofInt_nat (k := 64) (by omega)
 rw [e1, e2, or_nat (by omega), w _ (by omega) (by omega)]
 omega
theorem ipO_v {a b c d : Int} (a0 : 0 ≤ a) (a1 : a ≤ 255) (b0 : 0 ≤ b) (b1 : b ≤ 255) (c0 : 0 ≤ c) (c1 : c ≤ 255) (d0 : 0 ≤ d) (d1 : d ≤ 255) : ipO [a, b, c, d] = ((a * 256 + b) * 256 + c) * 256 + d := by
 have e : ipO [a, b, c, d] = shO .u32 (shO .u32 (shO .u32 (shO .u32 0 a) b) c) d := rfl
 rw [e, shO32 (a := 0) (by omega) a0 (by omega) (by omega), shO32 (by omega) b0 (by omega) (by omega), shO32 (by omega) c0 (by omega) (by omega), shO32 (by omega) d0 (by omega) (by omega)]
 omega
theorem macO_v {a b c d e f : Int} (a0 : 0 ≤ a) (a1 : a ≤ 255) (b0 : 0 ≤ b) (b1 : b ≤ 255) (c0 : 0 ≤ c) (c1 : c ≤ 255) (d0 : 0 ≤ d) (d1 : d ≤ 255) (e0 : 0 ≤ e) (e1 : e ≤ 255) (f0 : 0 ≤ f) (f1 : f ≤ 255) :
  macO [a, b, c, d, e, f] = ((((a * 256 + b) * 256 + c) * 256 + d) * 256 + e) * 256 + f := by
 have h : macO [a, b, c, d, e, f] = shO .u64 (shO .u64 (shO .u64 (shO .u64 (shO .u64 (shO .u64 0 a) b) c) d) e) f := rfl
 rw [h, shO64 (a := 0) (by omega) a0 (by omega) (by omega), shO64 (by omega) b0 (by omega) (by omega), shO64 (by omega) c0 (by omega) (by omega), shO64 (by omega) d0 (by omega) (by omega), shO64 (by omega) e0 (by omega) (by omega), shO64 (by omega) f0 (by omega) (by omega)]
 omega
theorem wu64_idU {n : Int} (h0 : 0 ≤ n) (h1 : n < 18446744073709551616) : wu64 n = n := by
 show IntKind.u64.wrap n = n
 simp [IntKind.wrap, IntKind.bits, IntKind.signed]; omega
theorem octI_rng (ip : Int) (k : Nat) : 0 ≤ octI ip k ∧ octI ip k ≤ 255 := by
 unfold octI andI
 have hle : (BitVec.ofInt IntKind.u32.bits (ip.fdiv (2 ^ k)) &&& BitVec.ofInt IntKind.u32.bits 255).toNat ≤ 255 := by
  rw [BitVec.toNat_and]
  have : (BitVec.ofInt IntKind.u32.bits 255).toNat = 255 := by decide
  rw [this]
  exact Nat.and_le_right
 generalize (BitVec.ofInt IntKind.u32.bits (ip.fdiv (2 ^ k)) &&& BitVec.ofInt IntKind.u32.bits 255).toNat = n at *
 have e : IntKind.u32.wrap (n : Int) = n := by simp [IntKind.wrap, IntKind.bits, IntKind.signed]; omega
 rw [e, wu64_idU (by omega) (by omega)]
 omega
theorem octI_v {ip : Int} (h0 : 0 ≤ ip) (h1 : ip < 4294967296) (k : Nat) : octI ip k = ip / 2 ^ k % 256 := by
 obtain ⟨n, rfl⟩ := Int.eq_ofNat_of_zero_le h0
 unfold octI andI
 have ef : ((n : Nat) : Int).fdiv (2 ^ k) = ((n / 2 ^ k : Nat) : Int) := by
  rw [Int.fdiv_eq_ediv_of_nonneg _ (by exact Int.pow_nonneg (by decide))]
  rw [Int.natCast_ediv]
  simp
 have hlt : n / 2 ^ k < 2 ^ 32 := Nat.lt_of_le_of_lt (Nat.div_le_self _ _) (by omega)
 rw [ef, BitVec.toNat_and]
 have e1 : (BitVec.ofInt IntKind.u32.bits ((n / 2 ^ k : Nat) : Int)).toNat = n / 2 ^ k := ofInt_nat (k := 32) hlt
 have e2 : (BitVec.ofInt IntKind.u32.bits 255).toNat = 2 ^ 8 - 1 := by decide
 rw [e1, e2, Nat.and_two_pow_sub_one_eq_mod]
 have hm : n / 2 ^ k % 2 ^ 8 < 256 := Nat.mod_lt _ (by decide)
 have e : IntKind.u32.wrap ((n / 2 ^ k % 2 ^ 8 : Nat) : Int) = ((n / 2 ^ k % 2 ^ 8 : Nat) : Int) := by simp [IntKind.wrap, IntKind.bits, IntKind.signed]; omega
 rw [e, wu64_idU (by omega) (by omega)]
 rw [Int.natCast_emod, Int.natCast_ediv]
 simp
theorem oct24 {ip : Int} (h0 : 0 ≤ ip) (h1 : ip < 4294967296) : octI ip 24 = ip / 16777216 % 256 ∧ octI ip 16 = ip / 65536 % 256 ∧ octI ip 8 = ip / 256 % 256 ∧ octI ip 0 = ip % 256 := by
 have e24 : (2 : Int) ^ 24 = 16777216 := by decide
 have e16 : (2 : Int) ^ 16 = 65536 := by decide
 have e8 : (2 : Int) ^ 8 = 256 := by decide
 have e0 : (2 : Int) ^ 0 = 1 := by decide
 rw [octI_v h0 h1, octI_v h0 h1, octI_v h0 h1, octI_v h0 h1, e24, e16, e8, e0, Int.ediv_one]
 exact ⟨rfl, rfl, rfl, rfl⟩
end Go.Proofs.YtpelignoebgkbaaGreatDoor
/- Addresses: single groups, written and read. -/
namespace Go.Proofs.YtpelignoebgkbaaGreatDoor
open Go.Am
set_option maxRecDepth 100000
def lowB (b : UInt8) : UInt8 := bif decide (65 ≤ b.toNat ∧ b.toNat ≤ 90) then UInt8.ofNat (b.toNat + 32) else b
/- Cuts. -/
theorem cut_app (c : UInt8) : ∀ (a r : List UInt8), (∀ x ∈ a, x ≠ c) → cutF c (a ++ c :: r) = (a, r, true)
 | [], r, _ => by unfold cutF; simp
 | x :: a, r, h => by
  have hx : (x == c) = false := by simpa using h x (by simp)
  rw [List.cons_append]
  unfold cutF
  rw [hx, cond_false, cut_app c a r (fun y hy => h y (by simp [hy]))]
theorem cut_none (c : UInt8) : ∀ (a : List UInt8), (∀ x ∈ a, x ≠ c) → cutF c a = (a, [], false)
 | [], _ => rfl
 | x :: a, h => by
  have hx : (x == c) = false := by simpa using h x (by simp)
  unfold cutF
  rw [hx, cond_false, cut_none c a (fun y hy => h y (by simp [hy]))]
theorem cut_back (c : UInt8) : ∀ (s h t : List UInt8), cutF c s = (h, t, true) → s = h ++ c :: t
 | [], h, t, e => by simp [cutF] at e
 | x :: s, h, t, e => by
  unfold cutF at e
  cases hx : x == c with
  | true =>
   rw [hx, cond_true] at e
   have : x = c := by simpa using hx
   cases e; rw [this]; rfl
  | false =>
   rw [hx, cond_false] at e
   simp only [Prod.mk.injEq] at e
   obtain ⟨rfl, e2, e3⟩ := e
   have := cut_back c s (cutF c s).1 t (by rw [← e2, ← e3])
   rw [List.cons_append, ← this]
theorem cut_whole (c : UInt8) : ∀ (s : List UInt8), (cutF c s).2.2 = false → (cutF c s).1 = s ∧ (cutF c s).2.1 = []
 | [], _ => ⟨rfl, rfl⟩
 | x :: s, e => by
  unfold cutF at e ⊢
  cases hx : x == c with
  | true => rw [hx] at e; cases e
  | false =>
   rw [hx, cond_false] at e
   rw [cond_false]
   obtain ⟨h1, h2⟩ := cut_whole c s e
   exact ⟨by rw [h1], h2⟩
/- Decimal numbers. -/
/- Pairs of digits. -/
theorem dgS16_cons {v w : Int} {c : UInt8} {cs : List UInt8} (h : dgS 16 255 (c :: cs) v = some w) : dgt c.toNat 16 < 16 ∧ dgS 16 255 cs (v * 16 + dgt c.toNat 16) = some w := by
 unfold dgS at h
 cases hq : (bif decide (dgt c.toNat 16 ≥ 16) then true else decide (v * 16 + dgt c.toNat 16 > 255)) with
 | true => rw [hq] at h; cases h
 | false =>
  rw [hq, cond_false] at h
  by_cases a1 : dgt c.toNat 16 ≥ 16
  · rw [decide_eq_true a1] at hq; cases hq
  · exact ⟨by omega, h⟩
end Go.Proofs.YtpelignoebgkbaaGreatDoor
/- Addresses: what is written is read; what is read is written. -/
namespace Go.Proofs.YtpelignoebgkbaaGreatDoor
open Go.Am
set_option maxRecDepth 100000
/- What is written is parsed; what is parsed was written: addresses. -/
theorem spF_last {rd : List UInt8 → Int × Bool} {c : UInt8} {s : List UInt8} {v : Int} (hc : ∀ x ∈ s, x ≠ c) (hr : rd s = (v, true)) : spF rd c 1 s = some [v] := by
 unfold spF; rw [cut_none c s hc]; simp only []; rw [hr]; rfl
theorem spF_more {rd : List UInt8 → Int × Bool} {c : UInt8} {a t : List UInt8} {v : Int} {m : Nat} {l : List Int} (hc : ∀ x ∈ a, x ≠ c) (hr : rd a = (v, true)) (ht : spF rd c m t = some l) : spF rd c (m + 1) (a ++ c :: t) = some (v :: l) := by
 unfold spF; rw [cut_app c a t hc]; simp only []; rw [hr, ht]; rfl
theorem spF_back {rd : List UInt8 → Int × Bool} {c : UInt8} {m : Nat} {s : List UInt8} {l : List Int} (h : spF rd c (m + 1) s = some l) :
  (m = 0 ∧ ∃ v, rd s = (v, true) ∧ l = [v]) ∨ ∃ a t v r, s = a ++ c :: t ∧ rd a = (v, true) ∧ spF rd c m t = some r ∧ l = v :: r := by
 unfold spF at h
 cases hr : !(rd (cutF c s).1).2 with
 | true => rw [hr] at h; cases h
 | false =>
  have hr2 : rd (cutF c s).1 = ((rd (cutF c s).1).1, true) := by
   have : (rd (cutF c s).1).2 = true := by simpa using hr
   exact Prod.ext rfl this
  rw [hr, cond_false] at h
  cases hm : !(cutF c s).2.2 with
  | true =>
   rw [hm, cond_true] at h
   have hf : (cutF c s).2.2 = false := by simpa using hm
   obtain ⟨h1, _⟩ := cut_whole c s hf
   rw [h1] at hr2 h
   cases m with
   | zero => left; refine ⟨rfl, _, hr2, ?_⟩; cases h; rfl
   | succ m => cases h
  | false =>
   rw [hm, cond_false] at h
   have hf : (cutF c s).2.2 = true := by simpa using hm
   have hs := cut_back c s (cutF c s).1 (cutF c s).2.1 (by rw [← hf])
   cases hq : spF rd c m (cutF c s).2.1 with
   | none => rw [hq] at h; cases h
   | some r =>
    rw [hq] at h
    right
    refine ⟨_, _, _, r, hs, hr2, hq, ?_⟩
    cases h; rfl
/- Pairs of digits. -/
/- Decimal numbers. -/
/- Addresses. -/
end Go.Proofs.YtpelignoebgkbaaGreatDoor
/- The reference's digits. -/
namespace Go.Proofs.YtpelignoebgkbaaGreatDoor
open Go.Am
set_option maxRecDepth 100000
def dgR (c : Int) : Int := bif decide (dgt c 16 < 16) then dgt c 16 else -1
theorem dr_all : ((List.range 256).all fun k => eqR (.int .i64 (dgR ((k : Nat) : Int))) [] (crun (opn (tbl []) Tryz.f100 [.int .u8 ((k : Nat) : Int)] []))) = true := by kernel_rfl
noncomputable def dr_s : CSumm := fun args H => match args, H with
 | [.int .u8 v], [] => .ite (decide (0 ≤ v ∧ v ≤ 255)) (.ret (.int .i64 (dgR v)) []) .fail
 | _, _ => .fail
theorem dr_k : Known Tryz.prog 100 dr_s := (openKnown ok0 Tryz.func100 rfl).weak (by
 intro args H v ups h
 unfold dr_s at h
 split at h
 · rename_i n
   rw [crun_ite, cond_eq_ite] at h
   split at h
   · rename_i hc
     obtain ⟨h0, h1⟩ := of_decide_eq_true hc
     have := List.all_eq_true.1 dr_all n.toNat (List.mem_range.2 (by omega))
     rw [show ((n.toNat : Nat) : Int) = n by omega] at this
     exact (eqR_eq this).trans h
   · cases h
 · cases h)
end Go.Proofs.YtpelignoebgkbaaGreatDoor
