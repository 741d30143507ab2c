/- Decimal numbers, pairs of digits. -/
import Derived.Test.YtjjfggahllnafaaGreatDoorPart1
import Derived.Test.YtjjfggahllnafaaGreatDoorMachine6
set_option linter.unusedVariables false
set_option linter.unusedSimpArgs false
namespace Go.Proofs.YtjjfggahllnafaaGreatDoor
open Go.Am
set_option maxRecDepth 100000
def z1 (s : List UInt8) : Bool := bif decide ((s.length : Int) > 1) then ((s.getD 0 0).toNat : Int) == 48 else false
def decF (l : Int) (s : List UInt8) : Int × Bool := bif z1 s then (0, false) else dgV 10 l s
def hexF (s : List UInt8) : Int × Bool := bif ((s.length : Int) != 2) then (0, false) else dgV 16 255 s
noncomputable def dgC2 (s : List UInt8) (b l : Int) (K : Int × Bool → CTree) : CTree := bif dec (2 ≤ b ∧ b ≤ 16 ∧ 0 ≤ l ∧ l ≤ 255 ∧ s.length ≤ 1000000) then K (dgV b l s) else .fail
def zC (s : List UInt8) (K L : CTree) : CTree := bif decide ((s.length : Int) > 1) then bif inB 0 s.length then bif ((s.getD (0 : Int).toNat 0).toNat : Int) == 48 then K else L else .fail else L
theorem zC_eq (s : List UInt8) (K L : CTree) : zC s K L = bif z1 s then K else L := by
 unfold zC z1
 by_cases h : (s.length : Int) > 1
 · rw [decide_eq_true h, cond_true, cond_true, inB_ok (by decide) (by omega), cond_true]; rfl
 · rw [decide_eq_false h]; rfl
theorem decb_t (s : List UInt8) (l : Int) : opn (tbl [(81, digs_s)]) Tryz.f83 [.str s, .int .u8 l] [] = zC s (.ret (.tup [.int .u8 0, .bool false]) []) (dgC2 s 10 l fun r => .ret (.tup [.int .u8 r.1, .bool r.2]) []) := by kernel_rfl
theorem deci_t (s : List UInt8) (l : Int) : opn (tbl [(85, digi_s)]) Tryz.f75 [.str s, .int .i64 l] [] = zC s (.ret (.tup [.int .i64 0, .bool false]) []) (dgC2 s 10 l fun r => .ret (.tup [.int .i64 r.1, .bool r.2]) []) := by kernel_rfl
theorem dgC2_ok {s : List UInt8} {b l : Int} (hb : 2 ≤ b) (hb1 : b ≤ 16) (hl : 0 ≤ l) (hl1 : l ≤ 255) (hs : s.length ≤ 1000000) (K : Int × Bool → CTree) : dgC2 s b l K = K (dgV b l s) := by
 unfold dgC2; rw [dec_iff.2 ⟨hb, hb1, hl, hl1, hs⟩, cond_true]
noncomputable def decb_s : CSumm := fun args H => match args, H with
 | [.str s, .int .u8 l], [] => .ite (decide (0 ≤ l ∧ l ≤ 255 ∧ s.length ≤ 1000000)) (.ret (.tup [.int .u8 (decF l s).1, .bool (decF l s).2]) []) .fail
 | _, _ => .fail
noncomputable def deci_s : CSumm := fun args H => match args, H with
 | [.str s, .int .i64 l], [] => .ite (decide (0 ≤ l ∧ l ≤ 255 ∧ s.length ≤ 1000000)) (.ret (.tup [.int .i64 (decF l s).1, .bool (decF l s).2]) []) .fail
 | _, _ => .fail
theorem decb_k : Known Tryz.prog 83 decb_s := (openKnown (tbl_cons digs_k ok0) Tryz.func83 rfl).weak (by
 intro args H v ups h
 unfold decb_s at h
 split at h
 · rename_i s l
   rw [crun_ite, cond_eq_ite] at h
   split at h
   · rename_i hc
     obtain ⟨h0, h1, hs⟩ := of_decide_eq_true hc
     refine (congrArg crun (decb_t s l)).trans ?_
     rw [zC_eq, dgC2_ok (by decide) (by decide) h0 h1 hs, ← h]
     unfold decF
     cases z1 s <;> rfl
   · cases h
 · cases h)
theorem deci_k : Known Tryz.prog 75 deci_s := (openKnown (tbl_cons digi_k ok0) Tryz.func75 rfl).weak (by
 intro args H v ups h
 unfold deci_s at h
 split at h
 · rename_i s l
   rw [crun_ite, cond_eq_ite] at h
   split at h
   · rename_i hc
     obtain ⟨h0, h1, hs⟩ := of_decide_eq_true hc
     refine (congrArg crun (deci_t s l)).trans ?_
     rw [zC_eq, dgC2_ok (by decide) (by decide) h0 h1 hs, ← h]
     unfold decF
     cases z1 s <;> rfl
   · cases h
 · cases h)
def rdS (r : List UInt8 → Int × Bool) : CSumm := fun args H => match args, H with
 | [.str s], [] => .ite (decide (s.length ≤ 1000000)) (.ret (.tup [.int .u8 (r s).1, .bool (r s).2]) []) .fail
 | _, _ => .fail
theorem oct_t (s : List UInt8) : opn (tbl [(83, decb_s)]) Tryz.f71 [.str s] [] = bif decide (0 ≤ (255 : Int) ∧ (255 : Int) ≤ 255 ∧ s.length ≤ 1000000) then .ret (.tup [.int .u8 (decF 255 s).1, .bool (decF 255 s).2]) [] else .fail := by kernel_rfl
theorem oct_k : Known Tryz.prog 71 (rdS (decF 255)) := (openKnown (tbl_cons decb_k ok0) Tryz.func71 rfl).weak (by
 intro args H v ups h
 unfold rdS at h
 split at h
 · rename_i s
   rw [crun_ite, cond_eq_ite] at h
   split at h
   · rename_i hc
     refine (congrArg crun (oct_t s)).trans ?_
     rw [decide_eq_true ⟨by decide, by decide, of_decide_eq_true hc⟩]
     exact h
   · cases h
 · cases h)
theorem pair_t (s : List UInt8) : opn (tbl [(81, digs_s)]) Tryz.f69 [.str s] [] = bif ((s.length : Int) != 2) then .ret (.tup [.int .u8 0, .bool false]) [] else dgC2 s 16 255 fun r => .ret (.tup [.int .u8 r.1, .bool r.2]) [] := by kernel_rfl
theorem pair_k : Known Tryz.prog 69 (rdS hexF) := (openKnown (tbl_cons digs_k ok0) Tryz.func69 rfl).weak (by
 intro args H v ups h
 unfold rdS at h
 split at h
 · rename_i s
   rw [crun_ite, cond_eq_ite] at h
   split at h
   · rename_i hc
     refine (congrArg crun (pair_t s)).trans ?_
     rw [dgC2_ok (by decide) (by decide) (by decide) (by decide) (of_decide_eq_true hc), ← h]
     unfold hexF
     cases ((s.length : Int) != 2) <;> rfl
   · cases h
 · cases h)
end Go.Proofs.YtjjfggahllnafaaGreatDoor
/- Addresses are parsed: the trees. -/
namespace Go.Proofs.YtjjfggahllnafaaGreatDoor
open Go.Am
set_option maxRecDepth 100000
abbrev w32 (n : Int) : Int := IntKind.u32.wrap n
abbrev wu64 (n : Int) : Int := IntKind.u64.wrap n
def orI (k : IntKind) (a b : Int) : Int := k.wrap (BitVec.ofInt k.bits a ||| BitVec.ofInt k.bits b).toNat
def spC (rd : List UInt8 → Int × Bool) (c : UInt8) : Nat → List UInt8 → List Int → (List Int → CTree) → CTree → CTree
 | 0, s, _, _, F => bif decide (s.length ≤ 1000000) then bif decide ((cutF c s).1.length ≤ 1000000) then bif (bif !(rd (cutF c s).1).2 then true else true) then F else (bif !(cutF c s).2.2 then .fail else .fail) else .fail else .fail
 | m + 1, s, acc, K, F => bif decide (s.length ≤ 1000000) then bif decide ((cutF c s).1.length ≤ 1000000) then bif (bif !(rd (cutF c s).1).2 then true else false) then F else
   bif !(cutF c s).2.2 then (match m with | 0 => K (acc ++ [(rd (cutF c s).1).1]) | _ + 1 => F) else spC rd c m (cutF c s).2.1 (acc ++ [(rd (cutF c s).1).1]) K F else .fail else .fail
def shO (k : IntKind) (a b : Int) : Int := orI k (k.wrap (a * 256)) (k.wrap b)
def ipO (l : List Int) : Int := shO .u32 (shO .u32 (shO .u32 (shO .u32 0 (l.getD 0 0)) (l.getD 1 0)) (l.getD 2 0)) (l.getD 3 0)
def macO (l : List Int) : Int := shO .u64 (shO .u64 (shO .u64 (shO .u64 (shO .u64 (shO .u64 0 (l.getD 0 0)) (l.getD 1 0)) (l.getD 2 0)) (l.getD 3 0)) (l.getD 4 0)) (l.getD 5 0)
noncomputable abbrev κsp := tbl [(71, rdS (decF 255)), (69, rdS hexF), (74, cut_s)]
theorem spOk : KOk Tryz.prog κsp := tbl_cons oct_k (tbl_cons pair_k (tbl_cons cut2_k ok0))
theorem pip_t (s : List UInt8) : opn κsp Tryz.f53 [.str s] [] = spC (decF 255) 46 4 s [] (fun l => .ret (.tup [.int .u32 (ipO l), .int .i64 0]) []) (.ret (.tup [.int .u32 0, .int .i64 19]) []) := by kernel_rfl
theorem pmac_t (s : List UInt8) : opn κsp Tryz.f51 [.str s] [] = spC hexF 58 6 s [] (fun l => .ret (.tup [.int .u64 (macO l), .int .i64 0]) []) (.ret (.tup [.int .u64 0, .int .i64 19]) []) := by kernel_rfl
def es8 (l : List Int) : SV := .agg [.int .u8 (l.getD 0 0), .int .u8 (l.getD 1 0), .int .u8 (l.getD 2 0), .int .u8 (l.getD 3 0), .int .u8 (l.getD 4 0), .int .u8 (l.getD 5 0), .int .u8 (l.getD 6 0), .int .u8 (l.getD 7 0), .int .u8 (l.getD 8 0), .int .u8 (l.getD 9 0)]
theorem pesi_t (s : List UInt8) : opn κsp Tryz.f57 [.str s] [] = spC hexF 58 10 s [] (fun l => .ret (.tup [es8 l, .int .i64 0]) []) (.ret (.tup [es8 [], .int .i64 19]) []) := by kernel_rfl
end Go.Proofs.YtjjfggahllnafaaGreatDoor
/- Groups of digits are written. -/
namespace Go.Proofs.YtjjfggahllnafaaGreatDoor
open Go.Am
set_option maxRecDepth 100000
def figs : List UInt8 := [48, 49, 50, 51, 52, 53, 54, 55, 56, 57, 97, 98, 99, 100, 101, 102]
def andI (k : IntKind) (a b : Int) : Int := k.wrap (BitVec.ofInt k.bits a &&& BitVec.ofInt k.bits b).toNat
def hiD (x : Int) : Int := x.fdiv (2 ^ 4)
def loD (x : Int) : Int := andI .u8 x 15
def hx (n : Int) : UInt8 := UInt8.ofNat ((figs.getD n.toNat 0).toNat : Int).toNat
def pairsL : List Int → List UInt8
 | [] => []
 | [x] => [hx (hiD x), hx (loD x)]
 | x :: y :: r => hx (hiD x) :: hx (loD x) :: 58 :: pairsL (y :: r)
def pairsC : List Int → CTree → CTree
 | [], K => K
 | x :: r, K => bif inB (hiD x) figs.length then bif inB (loD x) figs.length then pairsC r K else .fail else .fail
def macL (m : Int) : List Int := [w8 (m.fdiv (2 ^ 40)), w8 (m.fdiv (2 ^ 32)), w8 (m.fdiv (2 ^ 24)), w8 (m.fdiv (2 ^ 16)), w8 (m.fdiv (2 ^ 8)), w8 (m.fdiv (2 ^ 0))]
theorem mact_t (m : Int) : opn (tbl []) Tryz.f43 [.int .u64 m] [] = bif decide (m > 281474976710655) then .ret (.tup [.str [], .int .i64 2]) [] else pairsC (macL m) (.ret (.tup [.str (pairsL (macL m)), .int .i64 0]) []) := by kernel_rfl
theorem esit_t (a b c d e f g h i j : Int) : opn (tbl []) Tryz.f49 [es8 [a, b, c, d, e, f, g, h, i, j]] [] = pairsC [a, b, c, d, e, f, g, h, i, j] (.ret (.str (pairsL [a, b, c, d, e, f, g, h, i, j])) []) := by kernel_rfl
end Go.Proofs.YtjjfggahllnafaaGreatDoor
/- Small decimal numbers are written: what the library's tables come to. -/
namespace Go.Proofs.YtjjfggahllnafaaGreatDoor
open Go.Am
set_option maxRecDepth 100000
def eqUp : List (Nat × Option Chunk) → List (Nat × Option Chunk) → Bool
 | [], [] => true
 | (x, some c) :: l, (y, some d) :: m => Nat.beq x y && eqCh c d && eqUp l m
 | _, _ => false
theorem eqUp_eq : ∀ {a b : List (Nat × Option Chunk)}, eqUp a b = true → a = b
 | [], [], _ => rfl
 | [], _ :: _, h => by simp [eqUp] at h
 | (x, some c) :: l, [], h => by simp [eqUp] at h
 | (x, none) :: l, m, h => by cases m <;> simp [eqUp] at h
 | (x, some c) :: l, (y, none) :: m, h => by simp [eqUp] at h
 | (x, some c) :: l, (y, some d) :: m, h => by
  simp only [eqUp, Bool.and_eq_true] at h
  rw [Nat.eq_of_beq_eq_true h.1.1, eqCh_eq h.1.2, eqUp_eq h.2]
def eqR (v : SV) (ups : List (Nat × Option Chunk)) : Option (SV × List (Nat × Option Chunk)) → Bool
 | some (w, u) => eqSV v w && eqUp ups u
 | none => false
theorem eqR_eq {v : SV} {ups : List (Nat × Option Chunk)} {r : Option (SV × List (Nat × Option Chunk))} (h : eqR v ups r = true) : r = some (v, ups) := by
 unfold eqR at h
 split at h
 · simp only [Bool.and_eq_true] at h
   rw [← eqSV_eq h.1, ← eqUp_eq h.2]
 · cases h
theorem nd_all : ((List.range 156).all fun k => eqR (.int .i64 3) [] (crun (opn (tbl []) Tryz.f89 [.int .u64 ((100 + k : Nat) : Int)] []))) = true := by kernel_rfl
noncomputable def nd_s : CSumm := fun args H => match args, H with
 | [.int .u64 v], [] => .ite (decide (100 ≤ v ∧ v ≤ 255)) (.ret (.int .i64 3) []) .fail
 | _, _ => .fail
theorem nd_k : Known Tryz.prog 89 nd_s := (openKnown ok0 Tryz.func89 rfl).weak (by
 intro args H v ups h
 unfold nd_s at h
 split at h
 · rename_i n
   rw [crun_ite, cond_eq_ite] at h
   split at h
   · rename_i hc
     obtain ⟨h0, h1⟩ := of_decide_eq_true hc
     have := List.all_eq_true.1 nd_all (n - 100).toNat (List.mem_range.2 (by omega))
     rw [show ((100 + (n - 100).toNat : Nat) : Int) = n by omega] at this
     exact (eqR_eq this).trans h
   · cases h
 · cases h)
def zs24 : List SV := List.replicate 24 (.int .u8 0)
def d3 (v : Int) : List SV := [.int .u8 (48 + v / 100), .int .u8 (48 + v / 10 % 10), .int .u8 (48 + v % 10)]
theorem fb_all : ((List.range 156).all fun k => eqR (.tup []) [(0, some (.cells 107 (d3 ((100 + k : Nat) : Int) ++ List.replicate 21 (.int .u8 0))))] (crun (opn (tbl []) Tryz.f90 [.sl 0 1 0 3, .int .u64 ((100 + k : Nat) : Int)] [(0, .cells 107 zs24)]))) = true := by kernel_rfl
noncomputable def fb_s : CSumm := fun args H => match args, H with
 | [.sl 0 1 0 3, .int .u64 v], [(0, .cells 107 cs)] => .ite (dec (cs = zs24 ∧ 100 ≤ v ∧ v ≤ 255)) (.ret (.tup []) [(0, some (.cells 107 (d3 v ++ List.replicate 21 (.int .u8 0))))]) .fail
 | _, _ => .fail
theorem fb_k : Known Tryz.prog 90 fb_s := (openKnown ok0 Tryz.func90 rfl).weak (by
 intro args H v ups h
 unfold fb_s at h
 split at h
 · rename_i n cs
   rw [crun_ite] at h
   cases hc : dec (cs = zs24 ∧ 100 ≤ n ∧ n ≤ 255) with
   | false => rw [hc] at h; cases h
   | true =>
    rw [hc, cond_true] at h
    obtain ⟨rfl, h0, h1⟩ := dec_iff.1 hc
    have := List.all_eq_true.1 fb_all (n - 100).toNat (List.mem_range.2 (by omega))
    rw [show ((100 + (n - 100).toNat : Nat) : Int) = n by omega] at this
    exact (eqR_eq this).trans h
 · cases h)
end Go.Proofs.YtjjfggahllnafaaGreatDoor
/- Small decimal numbers are written. -/
namespace Go.Proofs.YtjjfggahllnafaaGreatDoor
open Go.Am
set_option maxRecDepth 100000
def chD (n : Int) : UInt8 := UInt8.ofNat (48 + n).toNat
def dcB (v : Int) : List UInt8 := bif decide (v < 10) then [chD v] else bif decide (v < 100) then [chD (v / 10), chD (v % 10)] else [chD (v / 100), chD (v / 10 % 10), chD (v % 10)]
theorem sm_all : ((List.range 100).all fun k => eqR (.str (dcB (k : Nat))) [] (crun (opn (tbl []) Tryz.f88 [.int .i64 ((k : Nat) : Int)] []))) = true := by kernel_rfl
noncomputable def sm_s : CSumm := fun args H => match args, H with
 | [.int .i64 v], [] => .ite (decide (0 ≤ v ∧ v < 100)) (.ret (.str (dcB v)) []) .fail
 | _, _ => .fail
theorem sm_k : Known Tryz.prog 88 sm_s := (openKnown ok0 Tryz.func88 rfl).weak (by
 intro args H v ups h
 unfold sm_s at h
 split at h
 · rename_i n
   rw [crun_ite, cond_eq_ite] at h
   split at h
   · rename_i hc
     obtain ⟨h0, h1⟩ := of_decide_eq_true hc
     have := List.all_eq_true.1 sm_all n.toNat (List.mem_range.2 (by omega))
     rw [show ((n.toNat : Nat) : Int) = n by omega] at this
     exact (eqR_eq this).trans h
   · cases h
 · cases h)
noncomputable def lenO (k : Nat) : Bool := decide (k ≤ 9223372036854775807) && decide (k * Tryz.prog.types[5].bytes ≤ 140737488355328)
theorem lenO_t {k : Nat} (h : k ≤ 1000000) : lenO k = true := by
 have hb : Tryz.prog.types[5].bytes = 1 := by kernel_rfl
 unfold lenO
 rw [hb, decide_eq_true (by omega), decide_eq_true (by omega)]; rfl
noncomputable def grC (es news : List SV) (K : Nat → List SV → CTree) : CTree := bif lenO (es.length + news.length) then K (es.length + news.length) (es ++ news) else .fail
noncomputable def auC (v : Int) (G : List SV → CTree) : CTree :=
 bif decide (v < 100) then bif decide (0 ≤ w64 v ∧ w64 v < 100) then G ((dcB (w64 v)).map byteSV) else .fail
 else bif decide (100 ≤ v ∧ v ≤ 255) then bif dec (zs24 = zs24 ∧ 100 ≤ v ∧ v ≤ 255) then G (d3 v) else .fail else .fail
noncomputable abbrev κau := tbl [(88, sm_s), (89, nd_s), (90, fb_s), (91, noS)]
theorem auOk : KOk Tryz.prog κau := tbl_cons sm_k (tbl_cons nd_k (tbl_cons fb_k (tbl_cons (no_k Tryz.func91 rfl) ok0)))
theorem au_t1 (v : Int) : opn κau Tryz.f80 [.nils, .int .u64 v, .int .i64 10] [] = auC v fun news => grC [] news fun n es => .ret (.qs 0 1 0 n) [(0, some (.seq 5 es))] := by kernel_rfl
theorem au_t2 (m : Nat) (xs : List SV) (v : Int) : opn κau Tryz.f80 [.qs 0 1 0 m, .int .u64 v, .int .i64 10] [(0, .seq 5 xs)] = auC v fun news => bif decide (m = xs.length) then grC xs news fun n es => .ret (.qs 1 1 0 n) [(0, none), (1, some (.seq 5 es))] else .fail := by kernel_rfl
end Go.Proofs.YtjjfggahllnafaaGreatDoor
/- Addresses are written. -/
namespace Go.Proofs.YtjjfggahllnafaaGreatDoor
open Go.Am
set_option maxRecDepth 100000
theorem chD_nat {n : Int} (h0 : 0 ≤ n) (h1 : n ≤ 9) : ((chD n).toNat : Int) = 48 + n := by
 unfold chD
 rw [UInt8.toNat_ofNat']
 omega
theorem byteSV_chD {n : Int} (h0 : 0 ≤ n) (h1 : n ≤ 9) : byteSV (chD n) = .int .u8 (48 + n) := by
 unfold byteSV; rw [chD_nat h0 h1]
theorem d3_eq {v : Int} (h0 : 100 ≤ v) (h1 : v ≤ 255) : d3 v = (dcB v).map byteSV := by
 unfold d3 dcB
 rw [decide_eq_false (by omega), cond_false, decide_eq_false (by omega), cond_false]
 simp only [List.map_cons, List.map_nil]
 rw [byteSV_chD (by omega) (by omega), byteSV_chD (by omega) (by omega), byteSV_chD (by omega) (by omega)]
theorem auC_ok {v : Int} (h0 : 0 ≤ v) (h1 : v ≤ 255) (G : List SV → CTree) : auC v G = G ((dcB v).map byteSV) := by
 unfold auC
 by_cases h : v < 100
 · rw [decide_eq_true h, cond_true, show w64 v = v from w64_id (by omega) (by omega), decide_eq_true ⟨h0, h⟩]; rfl
 · rw [decide_eq_false h, cond_false, decide_eq_true (show 100 ≤ v ∧ v ≤ 255 by omega), cond_true, dec_iff.2 ⟨rfl, by omega, h1⟩, cond_true, d3_eq (by omega) h1]
theorem dcB_len (v : Int) : (dcB v).length ≤ 3 := by
 unfold dcB
 cases decide (v < 10) <;> cases decide (v < 100) <;> simp
noncomputable def au_s : CSumm := fun args H => match args, H with
 | [.nils, .int .u64 v, .int .i64 10], [] => .ite (decide (0 ≤ v ∧ v ≤ 255)) (.ret (.qs 0 1 0 (dcB v).length) [(0, some (.seq 5 ((dcB v).map byteSV)))]) .fail
 | [.qs 0 1 0 m, .int .u64 v, .int .i64 10], [(0, .seq 5 xs)] => .ite (dec (m = xs.length ∧ xs.length ≤ 1000 ∧ 0 ≤ v ∧ v ≤ 255)) (.ret (.qs 1 1 0 (xs.length + (dcB v).length)) [(0, none), (1, some (.seq 5 (xs ++ (dcB v).map byteSV)))]) .fail
 | _, _ => .fail
theorem au_k0 : Known Tryz.prog 80 au_s := (openKnown auOk Tryz.func80 rfl).weak (by
 intro args H v ups h
 have hl := dcB_len
 unfold au_s at h
 split at h
 · rename_i n
   rw [crun_ite, cond_eq_ite] at h
   split at h
   · rename_i hc
     obtain ⟨h0, h1⟩ := of_decide_eq_true hc
     refine (congrArg crun (au_t1 n)).trans ?_
     rw [auC_ok h0 h1]
     unfold grC
     have := hl n
     rw [List.length_nil, Nat.zero_add, List.length_map, lenO_t (by omega), cond_true, List.nil_append]
     exact h
   · cases h
 · rename_i m n xs
   rw [crun_ite] at h
   cases hc : dec (m = xs.length ∧ xs.length ≤ 1000 ∧ 0 ≤ n ∧ n ≤ 255) with
   | false => rw [hc] at h; cases h
   | true =>
    rw [hc, cond_true] at h
    obtain ⟨rfl, hx, h0, h1⟩ := dec_iff.1 hc
    refine (congrArg crun (au_t2 xs.length xs n)).trans ?_
    rw [auC_ok h0 h1, decide_eq_true rfl, cond_true]
    unfold grC
    have := hl n
    rw [List.length_map, lenO_t (by omega), cond_true]
    exact h
 · cases h)
noncomputable def au0 (v : Int) (K : Nat → List SV → CTree) : CTree := bif decide (0 ≤ v ∧ v ≤ 255) then K (dcB v).length ((dcB v).map byteSV) else .fail
noncomputable def auN (m : Nat) (xs : List SV) (v : Int) (K : Nat → List SV → CTree) : CTree := bif dec (m = xs.length ∧ xs.length ≤ 1000 ∧ 0 ≤ v ∧ v ≤ 255) then K (xs.length + (dcB v).length) (xs ++ (dcB v).map byteSV) else .fail
theorem au1_t1 (v : Int) : opn (tbl [(80, au_s)]) Tryz.f67 [.nils, .int .u64 v, .int .i64 10] [] = au0 v fun n es => .ret (.qs 0 1 0 n) [(0, some (.seq 5 es))] := by kernel_rfl
theorem au1_t2 (m : Nat) (xs : List SV) (v : Int) : opn (tbl [(80, au_s)]) Tryz.f67 [.qs 0 1 0 m, .int .u64 v, .int .i64 10] [(0, .seq 5 xs)] = auN m xs v fun n es => .ret (.qs 1 1 0 n) [(0, none), (1, some (.seq 5 es))] := by kernel_rfl
theorem au_k : Known Tryz.prog 67 au_s := (openKnown (tbl_cons au_k0 ok0) Tryz.func67 rfl).weak (by
 intro args H v ups h
 unfold au_s at h
 split at h
 · rename_i n
   rw [crun_ite] at h
   refine (congrArg crun (au1_t1 n)).trans ?_
   unfold au0
   rw [crun_cond]
   exact h
 · rename_i m n xs
   rw [crun_ite] at h
   refine (congrArg crun (au1_t2 m xs n)).trans ?_
   unfold auN
   rw [crun_cond]
   exact h
 · cases h)
noncomputable def dotC (m : Nat) (xs : List SV) (K : Nat → List SV → CTree) : CTree := bif decide (m = xs.length) then grC xs [.int .u8 46] K else .fail
theorem dotC_ok {xs : List SV} (hx : xs.length ≤ 1000) {K : Nat → List SV → CTree} : dotC xs.length xs K = K (xs ++ [SV.int .u8 46]).length (xs ++ [SV.int .u8 46]) := by
 unfold dotC grC; rw [decide_eq_true rfl, cond_true, List.length_singleton, lenO_t (by omega), cond_true, List.length_append, List.length_singleton]
theorem auN_ok {xs : List SV} {v : Int} (hx : xs.length ≤ 1000) (h0 : 0 ≤ v) (h1 : v ≤ 255) {K : Nat → List SV → CTree} : auN xs.length xs v K = K (xs ++ (dcB v).map byteSV).length (xs ++ (dcB v).map byteSV) := by
 unfold auN; rw [dec_iff.2 ⟨rfl, hx, h0, h1⟩, cond_true, List.length_append, List.length_map]
def strC (n : Nat) (B : List SV) (K : List UInt8 → CTree) : CTree := bif decide (0 = 0) && decide (n = B.length) then K (B.map Am.byteOf) else bif decide (0 + n ≤ B.length) then K (((B.drop 0).take n).map Am.byteOf) else .fail
def octI (ip : Int) (k : Nat) : Int := wu64 (andI .u32 (ip.fdiv (2 ^ k)) 255)
theorem ipt_t (ip : Int) : opn (tbl [(67, au_s)]) Tryz.f47 [.int .u32 ip] [] = au0 (octI ip 24) fun n es => dotC n es fun n es => auN n es (octI ip 16) fun n es => dotC n es fun n es => auN n es (octI ip 8) fun n es => dotC n es fun n es => auN n es (octI ip 0) fun n es => strC n es fun t => .ret (.str t) [] := by kernel_rfl
def ipB (ip : Int) : List UInt8 := dcB (octI ip 24) ++ 46 :: (dcB (octI ip 16) ++ 46 :: (dcB (octI ip 8) ++ 46 :: dcB (octI ip 0)))
theorem byteOf_SV (b : UInt8) : Am.byteOf (byteSV b) = b := by
 show UInt8.ofNat ((b.toNat : Int).toNat) = b
 simp
theorem map_SV (l : List UInt8) : (l.map byteSV).map Am.byteOf = l := by
 rw [List.map_map]
 have : (Am.byteOf ∘ byteSV) = id := by funext b; exact byteOf_SV b
 rw [this, List.map_id]
theorem byteOf_46 : Am.byteOf (.int .u8 46) = 46 := rfl
noncomputable def ipt_s : CSumm := fun args H => match args, H with
 | [.int .u32 ip], [] => .ite (dec (∀ k, 0 ≤ octI ip k ∧ octI ip k ≤ 255)) (.ret (.str (ipB ip)) []) .fail
 | _, _ => .fail
theorem ipt_k : Known Tryz.prog 47 ipt_s := (openKnown (tbl_cons au_k ok0) Tryz.func47 rfl).weak (by
 intro args H v ups h
 unfold ipt_s at h
 split at h
 · rename_i ip
   rw [crun_ite] at h
   cases hc : dec (∀ k, 0 ≤ octI ip k ∧ octI ip k ≤ 255) with
   | false => rw [hc] at h; cases h
   | true =>
    rw [hc, cond_true] at h
    have ho := dec_iff.1 hc
    refine (congrArg crun (ipt_t ip)).trans ?_
    rw [← h]
    unfold ipB
    obtain ⟨a0, a1⟩ := ho 24; obtain ⟨b0, b1⟩ := ho 16; obtain ⟨c0, c1⟩ := ho 8; obtain ⟨d0, d1⟩ := ho 0
    have la := dcB_len (octI ip 24); have lb := dcB_len (octI ip 16); have lc := dcB_len (octI ip 8); have ld := dcB_len (octI ip 0)
    generalize octI ip 24 = a at *
    generalize octI ip 16 = b at *
    generalize octI ip 8 = c at *
    generalize octI ip 0 = d at *
    unfold au0
    rw [decide_eq_true ⟨a0, a1⟩, cond_true]
    dsimp only
    rw [show (dcB a).length = ((dcB a).map byteSV).length from (List.length_map _).symm]
    have x1 : ((dcB a).map byteSV).length ≤ 3 := by rw [List.length_map]; exact la
    have x2 : ((dcB b).map byteSV).length ≤ 3 := by rw [List.length_map]; exact lb
    have x3 : ((dcB c).map byteSV).length ≤ 3 := by rw [List.length_map]; exact lc
    have x4 : ((dcB d).map byteSV).length ≤ 3 := by rw [List.length_map]; exact ld
    rw [dotC_ok (by omega), auN_ok (by simp only [List.length_append, List.length_singleton]; omega) b0 b1, dotC_ok (by simp only [List.length_append, List.length_singleton]; omega), auN_ok (by simp only [List.length_append, List.length_singleton]; omega) c0 c1,
     dotC_ok (by simp only [List.length_append, List.length_singleton]; omega), auN_ok (by simp only [List.length_append, List.length_singleton]; omega) d0 d1]
    unfold strC
    rw [decide_eq_true rfl, decide_eq_true rfl, Bool.and_self, cond_true]
    simp only [List.map_append, map_SV, List.map_cons, List.map_nil, byteOf_46, List.append_assoc, List.cons_append, List.nil_append]
 · cases h)
end Go.Proofs.YtjjfggahllnafaaGreatDoor
/- Addresses are parsed, known. -/
namespace Go.Proofs.YtjjfggahllnafaaGreatDoor
open Go.Am
set_option maxRecDepth 100000
def spF (rd : List UInt8 → Int × Bool) (c : UInt8) : Nat → List UInt8 → Option (List Int)
 | 0, _ => none
 | m + 1, s => bif !(rd (cutF c s).1).2 then none else bif !(cutF c s).2.2 then (match m with | 0 => some [(rd (cutF c s).1).1] | _ + 1 => none) else
   match spF rd c m (cutF c s).2.1 with | some l => some ((rd (cutF c s).1).1 :: l) | none => none
theorem cutF_len (c : UInt8) (s : List UInt8) : (cutF c s).1.length ≤ s.length ∧ (cutF c s).2.1.length ≤ s.length := by
 rcases cutF_idx c s with ⟨_, h⟩ | ⟨k, _, hk, h⟩
 · rw [h]; exact ⟨Nat.le_refl _, Nat.zero_le _⟩
 · rw [h]
   refine ⟨?_, ?_⟩
   · show (s.take k).length ≤ _; rw [List.length_take]; omega
   · show (s.drop (k + 1)).length ≤ _; rw [List.length_drop]; omega
theorem spC_ok {rd : List UInt8 → Int × Bool} {c : UInt8} {K : List Int → CTree} {F : CTree} : ∀ (m : Nat) (s : List UInt8) (acc : List Int), s.length ≤ 1000000 → spC rd c m s acc K F = match spF rd c m s with | some l => K (acc ++ l) | none => F
 | 0, s, acc, h => by
  obtain ⟨h1, h2⟩ := cutF_len c s
  unfold spC spF
  rw [decide_eq_true h, cond_true, decide_eq_true (by omega), cond_true]
  cases !(rd (cutF c s).1).2 <;> rfl
 | m + 1, s, acc, h => by
  obtain ⟨h1, h2⟩ := cutF_len c s
  unfold spC spF
  rw [decide_eq_true h, cond_true, decide_eq_true (show (cutF c s).1.length ≤ 1000000 by omega), cond_true]
  cases !(rd (cutF c s).1).2 with
  | true => rfl
  | false =>
   rw [cond_false, cond_false, cond_false]
   cases !(cutF c s).2.2 with
   | true => cases m <;> rfl
   | false =>
    rw [cond_false, cond_false, spC_ok m _ _ (by omega)]
    cases spF rd c m (cutF c s).2.1 with
    | none => rfl
    | some l => simp
def pipV (s : List UInt8) : Int × Int := match spF (decF 255) 46 4 s with | some l => (ipO l, 0) | none => (0, 19)
def pmacV (s : List UInt8) : Int × Int := match spF hexF 58 6 s with | some l => (macO l, 0) | none => (0, 19)
def pesiV (s : List UInt8) : List Int × Int := match spF hexF 58 10 s with | some l => (l, 0) | none => ([], 19)
noncomputable def pip_s : CSumm := fun args H => match args, H with
 | [.str s], [] => .ite (decide (s.length ≤ 1000000)) (.ret (.tup [.int .u32 (pipV s).1, .int .i64 (pipV s).2]) []) .fail
 | _, _ => .fail
noncomputable def pmac_s : CSumm := fun args H => match args, H with
 | [.str s], [] => .ite (decide (s.length ≤ 1000000)) (.ret (.tup [.int .u64 (pmacV s).1, .int .i64 (pmacV s).2]) []) .fail
 | _, _ => .fail
noncomputable def pesi_s : CSumm := fun args H => match args, H with
 | [.str s], [] => .ite (decide (s.length ≤ 1000000)) (.ret (.tup [es8 (pesiV s).1, .int .i64 (pesiV s).2]) []) .fail
 | _, _ => .fail
theorem pip_k : Known Tryz.prog 53 pip_s := (openKnown spOk Tryz.func53 rfl).weak (by
 intro args H v ups h
 unfold pip_s at h
 split at h
 · rename_i s
   rw [crun_ite, cond_eq_ite] at h
   split at h
   · rename_i hc
     refine (congrArg crun (pip_t s)).trans ?_
     rw [spC_ok 4 s [] (of_decide_eq_true hc), ← h]
     unfold pipV
     cases spF (decF 255) 46 4 s <;> rfl
   · cases h
 · cases h)
theorem pmac_k : Known Tryz.prog 51 pmac_s := (openKnown spOk Tryz.func51 rfl).weak (by
 intro args H v ups h
 unfold pmac_s at h
 split at h
 · rename_i s
   rw [crun_ite, cond_eq_ite] at h
   split at h
   · rename_i hc
     refine (congrArg crun (pmac_t s)).trans ?_
     rw [spC_ok 6 s [] (of_decide_eq_true hc), ← h]
     unfold pmacV
     cases spF hexF 58 6 s <;> rfl
   · cases h
 · cases h)
theorem pesi_k : Known Tryz.prog 57 pesi_s := (openKnown spOk Tryz.func57 rfl).weak (by
 intro args H v ups h
 unfold pesi_s at h
 split at h
 · rename_i s
   rw [crun_ite, cond_eq_ite] at h
   split at h
   · rename_i hc
     refine (congrArg crun (pesi_t s)).trans ?_
     rw [spC_ok 10 s [] (of_decide_eq_true hc), ← h]
     unfold pesiV
     cases spF hexF 58 10 s <;> rfl
   · cases h
 · cases h)
/- Groups written. -/
theorem and15 : ((List.range 256).all fun k => decide (0 ≤ loD ((k : Nat) : Int) ∧ loD ((k : Nat) : Int) = ((k % 16 : Nat) : Int) ∧ hiD ((k : Nat) : Int) = ((k / 16 : Nat) : Int))) = true := by kernel_rfl
theorem nib {x : Int} (h0 : 0 ≤ x) (h1 : x ≤ 255) : loD x = x % 16 ∧ hiD x = x / 16 := by
 have := List.all_eq_true.1 and15 x.toNat (List.mem_range.2 (by omega))
 rw [show ((x.toNat : Nat) : Int) = x by omega] at this
 obtain ⟨_, h2, h3⟩ := of_decide_eq_true this
 rw [h2, h3]; omega
def bytesI (l : List Int) : Prop := ∀ x ∈ l, 0 ≤ x ∧ x ≤ 255
theorem pairsC_ok {K : CTree} : ∀ {l : List Int}, bytesI l → pairsC l K = K
 | [], _ => rfl
 | x :: r, h => by
  obtain ⟨h0, h1⟩ := h x (by simp)
  obtain ⟨e1, e2⟩ := nib h0 h1
  have hf : figs.length = 16 := rfl
  unfold pairsC
  rw [e1, e2, hf, inB_ok (by omega) (by omega), cond_true, inB_ok (by omega) (by omega), cond_true]
  exact pairsC_ok (fun y hy => h y (by simp [hy]))
theorem w8_rng (n : Int) : 0 ≤ w8 n ∧ w8 n ≤ 255 := by
 simp [IntKind.wrap, IntKind.bits, IntKind.signed]; omega
theorem macL_bytes (m : Int) : bytesI (macL m) := by
 intro x hx
 simp only [macL, List.mem_cons, List.not_mem_nil, or_false] at hx
 rcases hx with rfl | rfl | rfl | rfl | rfl | rfl <;> exact w8_rng _
def mactV (m : Int) : List UInt8 × Int := bif decide (m > 281474976710655) then ([], 2) else (pairsL (macL m), 0)
noncomputable def mact_s : CSumm := fun args H => match args, H with
 | [.int .u64 m], [] => .ret (.tup [.str (mactV m).1, .int .i64 (mactV m).2]) []
 | _, _ => .fail
theorem mact_k : Known Tryz.prog 43 mact_s := (openKnown ok0 Tryz.func43 rfl).weak (by
 intro args H v ups h
 unfold mact_s at h
 split at h
 · rename_i m
   refine (congrArg crun (mact_t m)).trans ?_
   rw [pairsC_ok (macL_bytes m), ← h]
   unfold mactV
   cases decide (m > 281474976710655) <;> rfl
 · cases h)
noncomputable def esit_s : CSumm := fun args H => match args, H with
 | [.agg [.int .u8 a, .int .u8 b, .int .u8 c, .int .u8 d, .int .u8 e, .int .u8 f, .int .u8 g, .int .u8 h, .int .u8 i, .int .u8 j]], [] => .ite (dec (bytesI [a, b, c, d, e, f, g, h, i, j])) (.ret (.str (pairsL [a, b, c, d, e, f, g, h, i, j])) []) .fail
 | _, _ => .fail
theorem esit_k : Known Tryz.prog 49 esit_s := (openKnown ok0 Tryz.func49 rfl).weak (by
 intro args H v ups hh
 unfold esit_s at hh
 split at hh
 · rename_i a b c d e f g h i j
   rw [crun_ite] at hh
   cases hc : dec (bytesI [a, b, c, d, e, f, g, h, i, j]) with
   | false => rw [hc] at hh; cases hh
   | true =>
    rw [hc, cond_true] at hh
    refine (congrArg crun (esit_t a b c d e f g h i j)).trans ?_
    rw [pairsC_ok (dec_iff.1 hc)]
    exact hh
 · cases hh)
end Go.Proofs.YtjjfggahllnafaaGreatDoor
