/- The reference's numbers. -/
import Derived.Test.YtdgnhaacdpmclaaPart2
import Derived.Test.YtdgnhaacdpmclaaMachine4
namespace Go.Proofs.Ytdgnhaacdpmclaa
open Go.Am
set_option maxRecDepth 100000
theorem rbyte (n : Int) (k : Nat) : IntKind.u8.wrap (n.fdiv (256 ^ k)) = n / 256 ^ k % 256 := by
  rw [w8_eq, Int.fdiv_eq_ediv_of_nonneg _ (Int.pow_nonneg (by decide))]
def lenOk (k : Nat) : Bool := decide (k ≤ 9223372036854775807) && decide (k * 1 ≤ 140737488355328)
theorem lenOk_t {k : Nat} (h : k ≤ 1000000) : lenOk k = true := by
  unfold lenOk
  rw [decide_eq_true (by omega), decide_eq_true (by omega)]; rfl
/-- Bytes are appended one by one, the highest first. -/
def putR (n : Int) (nw : Nat) (ups : List (Nat × Option Chunk)) : Nat → Nat → List SV → CTree
  | 0, m, es => .ret (.qs nw 1 0 m) (ups ++ [(nw, some (.seq 5 es))])
  | k + 1, m, es => bif decide (m = es.length) then bif lenOk (es.length + 1) then putR n nw ups k (es.length + 1) (es ++ [.int .u8 (IntKind.u8.wrap (n.fdiv (256 ^ k)))]) else .fail else .fail
theorem putR_ok (n : Int) (nw : Nat) (ups : List (Nat × Option Chunk)) : ∀ (k : Nat) (es : List SV), es.length + k ≤ 1000000 → putR n nw ups k es.length es = .ret (.qs nw 1 0 (es.length + k)) (ups ++ [(nw, some (.seq 5 (es ++ be n k)))])
  | 0, es, _ => by simp [putR, be]
  | k + 1, es, h => by
    rw [putR, decide_eq_true rfl, lenOk_t (by omega), rbyte]
    have := putR_ok n nw ups k (es ++ [.int .u8 (n / 256 ^ k % 256)]) (by simp; omega)
    rw [List.length_append] at this
    rw [cond_true, cond_true]
    refine this.trans ?_
    simp [be, Nat.add_assoc, Nat.add_comm 1 k]
theorem p4_a2 (n : Int) : opn (tbl []) Try.f31 [.nils, .int .u64 n, .int .i64 2] [] = putR n 0 [] 2 0 [] := by kernel_rfl
theorem p4_b2 (n : Int) (m : Nat) (es : List SV) : opn (tbl []) Try.f31 [.qs 0 1 0 m, .int .u64 n, .int .i64 2] [(0, .seq 5 es)] = putR n 1 [(0, none)] 2 m es := by kernel_rfl
theorem p4_c2 (n a b : Int) : opn (tbl []) Try.f31 [.sl 0 1 0 2, .int .u64 n, .int .i64 2] [(0, .cells 5 [.int .u8 a, .int .u8 b])] = putR n 1 [(0, none)] 2 2 [.int .u8 a, .int .u8 b] := by kernel_rfl
theorem p4_a3 (n : Int) : opn (tbl []) Try.f31 [.nils, .int .u64 n, .int .i64 3] [] = putR n 0 [] 3 0 [] := by kernel_rfl
theorem p4_b3 (n : Int) (m : Nat) (es : List SV) : opn (tbl []) Try.f31 [.qs 0 1 0 m, .int .u64 n, .int .i64 3] [(0, .seq 5 es)] = putR n 1 [(0, none)] 3 m es := by kernel_rfl
theorem p4_c3 (n a b : Int) : opn (tbl []) Try.f31 [.sl 0 1 0 2, .int .u64 n, .int .i64 3] [(0, .cells 5 [.int .u8 a, .int .u8 b])] = putR n 1 [(0, none)] 3 2 [.int .u8 a, .int .u8 b] := by kernel_rfl
theorem p4_a4 (n : Int) : opn (tbl []) Try.f31 [.nils, .int .u64 n, .int .i64 4] [] = putR n 0 [] 4 0 [] := by kernel_rfl
theorem p4_b4 (n : Int) (m : Nat) (es : List SV) : opn (tbl []) Try.f31 [.qs 0 1 0 m, .int .u64 n, .int .i64 4] [(0, .seq 5 es)] = putR n 1 [(0, none)] 4 m es := by kernel_rfl
theorem p4_c4 (n a b : Int) : opn (tbl []) Try.f31 [.sl 0 1 0 2, .int .u64 n, .int .i64 4] [(0, .cells 5 [.int .u8 a, .int .u8 b])] = putR n 1 [(0, none)] 4 2 [.int .u8 a, .int .u8 b] := by kernel_rfl
theorem p4_a6 (n : Int) : opn (tbl []) Try.f31 [.nils, .int .u64 n, .int .i64 6] [] = putR n 0 [] 6 0 [] := by kernel_rfl
theorem p4_b6 (n : Int) (m : Nat) (es : List SV) : opn (tbl []) Try.f31 [.qs 0 1 0 m, .int .u64 n, .int .i64 6] [(0, .seq 5 es)] = putR n 1 [(0, none)] 6 m es := by kernel_rfl
theorem p4_c6 (n a b : Int) : opn (tbl []) Try.f31 [.sl 0 1 0 2, .int .u64 n, .int .i64 6] [(0, .cells 5 [.int .u8 a, .int .u8 b])] = putR n 1 [(0, none)] 6 2 [.int .u8 a, .int .u8 b] := by kernel_rfl
theorem p4_a8 (n : Int) : opn (tbl []) Try.f31 [.nils, .int .u64 n, .int .i64 8] [] = putR n 0 [] 8 0 [] := by kernel_rfl
theorem p4_b8 (n : Int) (m : Nat) (es : List SV) : opn (tbl []) Try.f31 [.qs 0 1 0 m, .int .u64 n, .int .i64 8] [(0, .seq 5 es)] = putR n 1 [(0, none)] 8 m es := by kernel_rfl
theorem p4_c8 (n a b : Int) : opn (tbl []) Try.f31 [.sl 0 1 0 2, .int .u64 n, .int .i64 8] [(0, .cells 5 [.int .u8 a, .int .u8 b])] = putR n 1 [(0, none)] 8 2 [.int .u8 a, .int .u8 b] := by kernel_rfl
theorem p5_a2 (n : Int) : opn (tbl []) Try.f53 [.nils, .int .u64 n, .int .i64 2] [] = putR n 0 [] 2 0 [] := by kernel_rfl
theorem p5_b2 (n : Int) (m : Nat) (es : List SV) : opn (tbl []) Try.f53 [.qs 0 1 0 m, .int .u64 n, .int .i64 2] [(0, .seq 5 es)] = putR n 1 [(0, none)] 2 m es := by kernel_rfl
theorem p5_c2 (n a b : Int) : opn (tbl []) Try.f53 [.sl 0 1 0 2, .int .u64 n, .int .i64 2] [(0, .cells 5 [.int .u8 a, .int .u8 b])] = putR n 1 [(0, none)] 2 2 [.int .u8 a, .int .u8 b] := by kernel_rfl
theorem p5_a3 (n : Int) : opn (tbl []) Try.f53 [.nils, .int .u64 n, .int .i64 3] [] = putR n 0 [] 3 0 [] := by kernel_rfl
theorem p5_b3 (n : Int) (m : Nat) (es : List SV) : opn (tbl []) Try.f53 [.qs 0 1 0 m, .int .u64 n, .int .i64 3] [(0, .seq 5 es)] = putR n 1 [(0, none)] 3 m es := by kernel_rfl
theorem p5_c3 (n a b : Int) : opn (tbl []) Try.f53 [.sl 0 1 0 2, .int .u64 n, .int .i64 3] [(0, .cells 5 [.int .u8 a, .int .u8 b])] = putR n 1 [(0, none)] 3 2 [.int .u8 a, .int .u8 b] := by kernel_rfl
theorem p5_a4 (n : Int) : opn (tbl []) Try.f53 [.nils, .int .u64 n, .int .i64 4] [] = putR n 0 [] 4 0 [] := by kernel_rfl
theorem p5_b4 (n : Int) (m : Nat) (es : List SV) : opn (tbl []) Try.f53 [.qs 0 1 0 m, .int .u64 n, .int .i64 4] [(0, .seq 5 es)] = putR n 1 [(0, none)] 4 m es := by kernel_rfl
theorem p5_c4 (n a b : Int) : opn (tbl []) Try.f53 [.sl 0 1 0 2, .int .u64 n, .int .i64 4] [(0, .cells 5 [.int .u8 a, .int .u8 b])] = putR n 1 [(0, none)] 4 2 [.int .u8 a, .int .u8 b] := by kernel_rfl
theorem p5_a6 (n : Int) : opn (tbl []) Try.f53 [.nils, .int .u64 n, .int .i64 6] [] = putR n 0 [] 6 0 [] := by kernel_rfl
theorem p5_b6 (n : Int) (m : Nat) (es : List SV) : opn (tbl []) Try.f53 [.qs 0 1 0 m, .int .u64 n, .int .i64 6] [(0, .seq 5 es)] = putR n 1 [(0, none)] 6 m es := by kernel_rfl
theorem p5_c6 (n a b : Int) : opn (tbl []) Try.f53 [.sl 0 1 0 2, .int .u64 n, .int .i64 6] [(0, .cells 5 [.int .u8 a, .int .u8 b])] = putR n 1 [(0, none)] 6 2 [.int .u8 a, .int .u8 b] := by kernel_rfl
theorem p5_a8 (n : Int) : opn (tbl []) Try.f53 [.nils, .int .u64 n, .int .i64 8] [] = putR n 0 [] 8 0 [] := by kernel_rfl
theorem p5_b8 (n : Int) (m : Nat) (es : List SV) : opn (tbl []) Try.f53 [.qs 0 1 0 m, .int .u64 n, .int .i64 8] [(0, .seq 5 es)] = putR n 1 [(0, none)] 8 m es := by kernel_rfl
theorem p5_c8 (n a b : Int) : opn (tbl []) Try.f53 [.sl 0 1 0 2, .int .u64 n, .int .i64 8] [(0, .cells 5 [.int .u8 a, .int .u8 b])] = putR n 1 [(0, none)] 8 2 [.int .u8 a, .int .u8 b] := by kernel_rfl
def rputT (n : Int) (k : Nat) (x : SV) (H : HpL) : CTree := match x, H with
  | .nils, [] => .ret (.qs 0 1 0 k) [(0, some (.seq 5 (be n k)))]
  | .qs 0 1 0 m, [(0, .seq 5 es)] => .ite (decide (m = es.length ∧ es.length ≤ 100000)) (.ret (.qs 1 1 0 (es.length + k)) [(0, none), (1, some (.seq 5 (es ++ be n k)))]) .fail
  | .sl 0 1 0 2, [(0, .cells 5 [.int .u8 a, .int .u8 b])] => .ret (.qs 1 1 0 (2 + k)) [(0, none), (1, some (.seq 5 ([.int .u8 a, .int .u8 b] ++ be n k)))]
  | _, _ => .fail
def rput_s : CSumm := fun args H => match args with
  | [x, .int .u64 n, .int .i64 k] => .ite (k == 2 || k == 3 || k == 4 || k == 6 || k == 8) (rputT n k.toNat x H) .fail
  | _ => .fail
theorem p4_ok2 {n : Int} {x : SV} {H : HpL} {v : SV} {ups : List (Nat × Option Chunk)} (h : crun (rputT n 2 x H) = some (v, ups)) : crun (opn (tbl []) Try.f31 [x, .int .u64 n, .int .i64 2] H) = some (v, ups) := by
  unfold rputT at h
  split at h
  · rw [p4_a2]; rw [← h]; have := putR_ok n 0 [] 2 [] (by simp); simp only [List.length_nil, List.nil_append, Nat.zero_add] at this; rw [this]
  · rename_i m es
    rw [crun_ite, cond_eq_ite] at h
    split at h
    · rename_i hc
      obtain ⟨rfl, h2⟩ := of_decide_eq_true hc
      rw [p4_b2, putR_ok n 1 _ 2 es (by omega)]; exact h
    · cases h
  · rename_i a b
    rw [p4_c2]; rw [← h]; exact congrArg crun (putR_ok n 1 [(0, none)] 2 [.int .u8 a, .int .u8 b] (by simp))
  · cases h
theorem p4_ok3 {n : Int} {x : SV} {H : HpL} {v : SV} {ups : List (Nat × Option Chunk)} (h : crun (rputT n 3 x H) = some (v, ups)) : crun (opn (tbl []) Try.f31 [x, .int .u64 n, .int .i64 3] H) = some (v, ups) := by
  unfold rputT at h
  split at h
  · rw [p4_a3]; rw [← h]; have := putR_ok n 0 [] 3 [] (by simp); simp only [List.length_nil, List.nil_append, Nat.zero_add] at this; rw [this]
  · rename_i m es
    rw [crun_ite, cond_eq_ite] at h
    split at h
    · rename_i hc
      obtain ⟨rfl, h2⟩ := of_decide_eq_true hc
      rw [p4_b3, putR_ok n 1 _ 3 es (by omega)]; exact h
    · cases h
  · rename_i a b
    rw [p4_c3]; rw [← h]; exact congrArg crun (putR_ok n 1 [(0, none)] 3 [.int .u8 a, .int .u8 b] (by simp))
  · cases h
theorem p4_ok4 {n : Int} {x : SV} {H : HpL} {v : SV} {ups : List (Nat × Option Chunk)} (h : crun (rputT n 4 x H) = some (v, ups)) : crun (opn (tbl []) Try.f31 [x, .int .u64 n, .int .i64 4] H) = some (v, ups) := by
  unfold rputT at h
  split at h
  · rw [p4_a4]; rw [← h]; have := putR_ok n 0 [] 4 [] (by simp); simp only [List.length_nil, List.nil_append, Nat.zero_add] at this; rw [this]
  · rename_i m es
    rw [crun_ite, cond_eq_ite] at h
    split at h
    · rename_i hc
      obtain ⟨rfl, h2⟩ := of_decide_eq_true hc
      rw [p4_b4, putR_ok n 1 _ 4 es (by omega)]; exact h
    · cases h
  · rename_i a b
    rw [p4_c4]; rw [← h]; exact congrArg crun (putR_ok n 1 [(0, none)] 4 [.int .u8 a, .int .u8 b] (by simp))
  · cases h
theorem p4_ok6 {n : Int} {x : SV} {H : HpL} {v : SV} {ups : List (Nat × Option Chunk)} (h : crun (rputT n 6 x H) = some (v, ups)) : crun (opn (tbl []) Try.f31 [x, .int .u64 n, .int .i64 6] H) = some (v, ups) := by
  unfold rputT at h
  split at h
  · rw [p4_a6]; rw [← h]; have := putR_ok n 0 [] 6 [] (by simp); simp only [List.length_nil, List.nil_append, Nat.zero_add] at this; rw [this]
  · rename_i m es
    rw [crun_ite, cond_eq_ite] at h
    split at h
    · rename_i hc
      obtain ⟨rfl, h2⟩ := of_decide_eq_true hc
      rw [p4_b6, putR_ok n 1 _ 6 es (by omega)]; exact h
    · cases h
  · rename_i a b
    rw [p4_c6]; rw [← h]; exact congrArg crun (putR_ok n 1 [(0, none)] 6 [.int .u8 a, .int .u8 b] (by simp))
  · cases h
theorem p4_ok8 {n : Int} {x : SV} {H : HpL} {v : SV} {ups : List (Nat × Option Chunk)} (h : crun (rputT n 8 x H) = some (v, ups)) : crun (opn (tbl []) Try.f31 [x, .int .u64 n, .int .i64 8] H) = some (v, ups) := by
  unfold rputT at h
  split at h
  · rw [p4_a8]; rw [← h]; have := putR_ok n 0 [] 8 [] (by simp); simp only [List.length_nil, List.nil_append, Nat.zero_add] at this; rw [this]
  · rename_i m es
    rw [crun_ite, cond_eq_ite] at h
    split at h
    · rename_i hc
      obtain ⟨rfl, h2⟩ := of_decide_eq_true hc
      rw [p4_b8, putR_ok n 1 _ 8 es (by omega)]; exact h
    · cases h
  · rename_i a b
    rw [p4_c8]; rw [← h]; exact congrArg crun (putR_ok n 1 [(0, none)] 8 [.int .u8 a, .int .u8 b] (by simp))
  · cases h
theorem p4_k : Known Try.prog 31 rput_s := (openKnown ok0 Try.func31 rfl).weak (by
  intro args H v ups h
  unfold rput_s at h
  split at h
  · rename_i x n k
    rw [crun_ite, cond_eq_ite] at h
    split at h
    · rename_i hc
      simp only [Bool.or_eq_true, beq_iff_eq] at hc
      obtain (((rfl | rfl) | rfl) | rfl) | rfl := hc
      · exact p4_ok2 h
      · exact p4_ok3 h
      · exact p4_ok4 h
      · exact p4_ok6 h
      · exact p4_ok8 h
    · cases h
  · cases h)
theorem p5_ok2 {n : Int} {x : SV} {H : HpL} {v : SV} {ups : List (Nat × Option Chunk)} (h : crun (rputT n 2 x H) = some (v, ups)) : crun (opn (tbl []) Try.f53 [x, .int .u64 n, .int .i64 2] H) = some (v, ups) := by
  unfold rputT at h
  split at h
  · rw [p5_a2]; rw [← h]; have := putR_ok n 0 [] 2 [] (by simp); simp only [List.length_nil, List.nil_append, Nat.zero_add] at this; rw [this]
  · rename_i m es
    rw [crun_ite, cond_eq_ite] at h
    split at h
    · rename_i hc
      obtain ⟨rfl, h2⟩ := of_decide_eq_true hc
      rw [p5_b2, putR_ok n 1 _ 2 es (by omega)]; exact h
    · cases h
  · rename_i a b
    rw [p5_c2]; rw [← h]; exact congrArg crun (putR_ok n 1 [(0, none)] 2 [.int .u8 a, .int .u8 b] (by simp))
  · cases h
theorem p5_ok3 {n : Int} {x : SV} {H : HpL} {v : SV} {ups : List (Nat × Option Chunk)} (h : crun (rputT n 3 x H) = some (v, ups)) : crun (opn (tbl []) Try.f53 [x, .int .u64 n, .int .i64 3] H) = some (v, ups) := by
  unfold rputT at h
  split at h
  · rw [p5_a3]; rw [← h]; have := putR_ok n 0 [] 3 [] (by simp); simp only [List.length_nil, List.nil_append, Nat.zero_add] at this; rw [this]
  · rename_i m es
    rw [crun_ite, cond_eq_ite] at h
    split at h
    · rename_i hc
      obtain ⟨rfl, h2⟩ := of_decide_eq_true hc
      rw [p5_b3, putR_ok n 1 _ 3 es (by omega)]; exact h
    · cases h
  · rename_i a b
    rw [p5_c3]; rw [← h]; exact congrArg crun (putR_ok n 1 [(0, none)] 3 [.int .u8 a, .int .u8 b] (by simp))
  · cases h
theorem p5_ok4 {n : Int} {x : SV} {H : HpL} {v : SV} {ups : List (Nat × Option Chunk)} (h : crun (rputT n 4 x H) = some (v, ups)) : crun (opn (tbl []) Try.f53 [x, .int .u64 n, .int .i64 4] H) = some (v, ups) := by
  unfold rputT at h
  split at h
  · rw [p5_a4]; rw [← h]; have := putR_ok n 0 [] 4 [] (by simp); simp only [List.length_nil, List.nil_append, Nat.zero_add] at this; rw [this]
  · rename_i m es
    rw [crun_ite, cond_eq_ite] at h
    split at h
    · rename_i hc
      obtain ⟨rfl, h2⟩ := of_decide_eq_true hc
      rw [p5_b4, putR_ok n 1 _ 4 es (by omega)]; exact h
    · cases h
  · rename_i a b
    rw [p5_c4]; rw [← h]; exact congrArg crun (putR_ok n 1 [(0, none)] 4 [.int .u8 a, .int .u8 b] (by simp))
  · cases h
theorem p5_ok6 {n : Int} {x : SV} {H : HpL} {v : SV} {ups : List (Nat × Option Chunk)} (h : crun (rputT n 6 x H) = some (v, ups)) : crun (opn (tbl []) Try.f53 [x, .int .u64 n, .int .i64 6] H) = some (v, ups) := by
  unfold rputT at h
  split at h
  · rw [p5_a6]; rw [← h]; have := putR_ok n 0 [] 6 [] (by simp); simp only [List.length_nil, List.nil_append, Nat.zero_add] at this; rw [this]
  · rename_i m es
    rw [crun_ite, cond_eq_ite] at h
    split at h
    · rename_i hc
      obtain ⟨rfl, h2⟩ := of_decide_eq_true hc
      rw [p5_b6, putR_ok n 1 _ 6 es (by omega)]; exact h
    · cases h
  · rename_i a b
    rw [p5_c6]; rw [← h]; exact congrArg crun (putR_ok n 1 [(0, none)] 6 [.int .u8 a, .int .u8 b] (by simp))
  · cases h
theorem p5_ok8 {n : Int} {x : SV} {H : HpL} {v : SV} {ups : List (Nat × Option Chunk)} (h : crun (rputT n 8 x H) = some (v, ups)) : crun (opn (tbl []) Try.f53 [x, .int .u64 n, .int .i64 8] H) = some (v, ups) := by
  unfold rputT at h
  split at h
  · rw [p5_a8]; rw [← h]; have := putR_ok n 0 [] 8 [] (by simp); simp only [List.length_nil, List.nil_append, Nat.zero_add] at this; rw [this]
  · rename_i m es
    rw [crun_ite, cond_eq_ite] at h
    split at h
    · rename_i hc
      obtain ⟨rfl, h2⟩ := of_decide_eq_true hc
      rw [p5_b8, putR_ok n 1 _ 8 es (by omega)]; exact h
    · cases h
  · rename_i a b
    rw [p5_c8]; rw [← h]; exact congrArg crun (putR_ok n 1 [(0, none)] 8 [.int .u8 a, .int .u8 b] (by simp))
  · cases h
theorem p5_k : Known Try.prog 53 rput_s := (openKnown ok0 Try.func53 rfl).weak (by
  intro args H v ups h
  unfold rput_s at h
  split at h
  · rename_i x n k
    rw [crun_ite, cond_eq_ite] at h
    split at h
    · rename_i hc
      simp only [Bool.or_eq_true, beq_iff_eq] at hc
      obtain (((rfl | rfl) | rfl) | rfl) | rfl := hc
      · exact p5_ok2 h
      · exact p5_ok3 h
      · exact p5_ok4 h
      · exact p5_ok6 h
      · exact p5_ok8 h
    · cases h
  · cases h)
end Go.Proofs.Ytdgnhaacdpmclaa
/- Routes: their bytes by the reference. -/
namespace Go.Proofs.Ytdgnhaacdpmclaa
open Go.Am
set_option maxRecDepth 100000
noncomputable abbrev κe := tbl [(25, check_s), (31, rput_s)]
theorem eOk : KOk Try.prog κe := tbl_cons rcheck_k (tbl_cons p4_k ok0)
theorem rby_t1 (rd e0 e1 e2 e3 e4 e5 e6 e7 e8 e9 tag mac ip : Int) (hip : Bool) (pip plen gw lab lab2 : Int) : opn κe Try.f14 [Nl.v ⟨1, rd, e0, e1, e2, e3, e4, e5, e6, e7, e8, e9, tag, mac, ip, hip, pip, plen, gw, lab, lab2⟩] [] =
  bif chk ⟨1, rd, e0, e1, e2, e3, e4, e5, e6, e7, e8, e9, tag, mac, ip, hip, pip, plen, gw, lab, lab2⟩ != 0 then .ret (.tup [.nils, .int .i64 (chk ⟨1, rd, e0, e1, e2, e3, e4, e5, e6, e7, e8, e9, tag, mac, ip, hip, pip, plen, gw, lab, lab2⟩)]) [] else .ret (.tup [.qs 0 1 0 27, .int .i64 0]) [(0, some (.seq 5 ([.int .u8 1, .int .u8 25] ++ (be rd 8 ++ [.int .u8 e0, .int .u8 e1, .int .u8 e2, .int .u8 e3, .int .u8 e4, .int .u8 e5, .int .u8 e6, .int .u8 e7, .int .u8 e8, .int .u8 e9] ++ be (IntKind.u64.wrap tag) 4 ++ be (IntKind.u64.wrap lab) 3))))] := by kernel_rfl
theorem rby_ok1 (rd e0 e1 e2 e3 e4 e5 e6 e7 e8 e9 tag mac ip : Int) (hip : Bool) (pip plen gw lab lab2 : Int) (hc : chk ⟨1, rd, e0, e1, e2, e3, e4, e5, e6, e7, e8, e9, tag, mac, ip, hip, pip, plen, gw, lab, lab2⟩ = 0) (hok : OkP ⟨1, rd, e0, e1, e2, e3, e4, e5, e6, e7, e8, e9, tag, mac, ip, hip, pip, plen, gw, lab, lab2⟩) : crun (opn κe Try.f14 [Nl.v ⟨1, rd, e0, e1, e2, e3, e4, e5, e6, e7, e8, e9, tag, mac, ip, hip, pip, plen, gw, lab, lab2⟩] []) = some (.tup [.qs 0 1 0 (nb ⟨1, rd, e0, e1, e2, e3, e4, e5, e6, e7, e8, e9, tag, mac, ip, hip, pip, plen, gw, lab, lab2⟩).length, .int .i64 0], [(0, some (.seq 5 (nb ⟨1, rd, e0, e1, e2, e3, e4, e5, e6, e7, e8, e9, tag, mac, ip, hip, pip, plen, gw, lab, lab2⟩)))]) := by
  obtain ⟨rd0, rd1, tag0, tag1, mac0, mac1, ip0, ip1, pip0, pip1, pl0, pl1, gw0, gw1, lab0, lab1, lac0, lac1⟩ := hok
  simp only at rd0 rd1 tag0 tag1 mac0 mac1 ip0 ip1 pip0 pip1 pl0 pl1 gw0 gw1 lab0 lab1 lac0 lac1
  have w1 := wu_id tag0 (by omega)
  have w2 := wu_id ip0 (by omega)
  have w3 := wu_id pip0 (by omega)
  have w4 := w8_eq plen
  have w5 := wu_id gw0 (by omega)
  have w6 := wu_id lab0 (by omega)
  have w7 := wu_id lac0 (by omega)
  have w8 : plen / 256 ^ 0 % 256 = plen % 256 := by rw [Int.pow_zero, Int.ediv_one]
  rw [rby_t1, hc]
  simp only [w1, w2, w3, w4, w5, w6, w7]
  rfl
theorem rby_t2true (rd e0 e1 e2 e3 e4 e5 e6 e7 e8 e9 tag mac ip : Int) (pip plen gw lab lab2 : Int) : opn κe Try.f14 [Nl.v ⟨2, rd, e0, e1, e2, e3, e4, e5, e6, e7, e8, e9, tag, mac, ip, true, pip, plen, gw, lab, lab2⟩] [] =
  bif chk ⟨2, rd, e0, e1, e2, e3, e4, e5, e6, e7, e8, e9, tag, mac, ip, true, pip, plen, gw, lab, lab2⟩ != 0 then .ret (.tup [.nils, .int .i64 (chk ⟨2, rd, e0, e1, e2, e3, e4, e5, e6, e7, e8, e9, tag, mac, ip, true, pip, plen, gw, lab, lab2⟩)]) [] else bif lab2 != 0 then .ret (.tup [.qs 0 1 0 42, .int .i64 0]) [(0, some (.seq 5 ([.int .u8 2, .int .u8 40] ++ (be rd 8 ++ [.int .u8 e0, .int .u8 e1, .int .u8 e2, .int .u8 e3, .int .u8 e4, .int .u8 e5, .int .u8 e6, .int .u8 e7, .int .u8 e8, .int .u8 e9] ++ be (IntKind.u64.wrap tag) 4 ++ be 48 1 ++ be mac 6 ++ be 32 1 ++ be (IntKind.u64.wrap ip) 4 ++ be (IntKind.u64.wrap lab) 3 ++ be (IntKind.u64.wrap lab2) 3))))] else .ret (.tup [.qs 0 1 0 39, .int .i64 0]) [(0, some (.seq 5 ([.int .u8 2, .int .u8 37] ++ (be rd 8 ++ [.int .u8 e0, .int .u8 e1, .int .u8 e2, .int .u8 e3, .int .u8 e4, .int .u8 e5, .int .u8 e6, .int .u8 e7, .int .u8 e8, .int .u8 e9] ++ be (IntKind.u64.wrap tag) 4 ++ be 48 1 ++ be mac 6 ++ be 32 1 ++ be (IntKind.u64.wrap ip) 4 ++ be (IntKind.u64.wrap lab) 3))))] := by kernel_rfl
theorem rby_ok2true (rd e0 e1 e2 e3 e4 e5 e6 e7 e8 e9 tag mac ip : Int) (pip plen gw lab lab2 : Int) (hc : chk ⟨2, rd, e0, e1, e2, e3, e4, e5, e6, e7, e8, e9, tag, mac, ip, true, pip, plen, gw, lab, lab2⟩ = 0) (hok : OkP ⟨2, rd, e0, e1, e2, e3, e4, e5, e6, e7, e8, e9, tag, mac, ip, true, pip, plen, gw, lab, lab2⟩) : crun (opn κe Try.f14 [Nl.v ⟨2, rd, e0, e1, e2, e3, e4, e5, e6, e7, e8, e9, tag, mac, ip, true, pip, plen, gw, lab, lab2⟩] []) = some (.tup [.qs 0 1 0 (nb ⟨2, rd, e0, e1, e2, e3, e4, e5, e6, e7, e8, e9, tag, mac, ip, true, pip, plen, gw, lab, lab2⟩).length, .int .i64 0], [(0, some (.seq 5 (nb ⟨2, rd, e0, e1, e2, e3, e4, e5, e6, e7, e8, e9, tag, mac, ip, true, pip, plen, gw, lab, lab2⟩)))]) := by
  obtain ⟨rd0, rd1, tag0, tag1, mac0, mac1, ip0, ip1, pip0, pip1, pl0, pl1, gw0, gw1, lab0, lab1, lac0, lac1⟩ := hok
  simp only at rd0 rd1 tag0 tag1 mac0 mac1 ip0 ip1 pip0 pip1 pl0 pl1 gw0 gw1 lab0 lab1 lac0 lac1
  have w1 := wu_id tag0 (by omega)
  have w2 := wu_id ip0 (by omega)
  have w3 := wu_id pip0 (by omega)
  have w4 := w8_eq plen
  have w5 := wu_id gw0 (by omega)
  have w6 := wu_id lab0 (by omega)
  have w7 := wu_id lac0 (by omega)
  have w8 : plen / 256 ^ 0 % 256 = plen % 256 := by rw [Int.pow_zero, Int.ediv_one]
  rw [rby_t2true, hc]
  simp only [w1, w2, w3, w4, w5, w6, w7]
  cases hl : (lab2 != 0) with
  | true => simp only [nb, encL, val2, hl]; rfl
  | false => simp only [nb, encL, val2, hl]; rfl
theorem rby_t2false (rd e0 e1 e2 e3 e4 e5 e6 e7 e8 e9 tag mac ip : Int) (pip plen gw lab lab2 : Int) : opn κe Try.f14 [Nl.v ⟨2, rd, e0, e1, e2, e3, e4, e5, e6, e7, e8, e9, tag, mac, ip, false, pip, plen, gw, lab, lab2⟩] [] =
  bif chk ⟨2, rd, e0, e1, e2, e3, e4, e5, e6, e7, e8, e9, tag, mac, ip, false, pip, plen, gw, lab, lab2⟩ != 0 then .ret (.tup [.nils, .int .i64 (chk ⟨2, rd, e0, e1, e2, e3, e4, e5, e6, e7, e8, e9, tag, mac, ip, false, pip, plen, gw, lab, lab2⟩)]) [] else bif lab2 != 0 then .ret (.tup [.qs 0 1 0 38, .int .i64 0]) [(0, some (.seq 5 ([.int .u8 2, .int .u8 36] ++ (be rd 8 ++ [.int .u8 e0, .int .u8 e1, .int .u8 e2, .int .u8 e3, .int .u8 e4, .int .u8 e5, .int .u8 e6, .int .u8 e7, .int .u8 e8, .int .u8 e9] ++ be (IntKind.u64.wrap tag) 4 ++ be 48 1 ++ be mac 6 ++ be 0 1 ++ be (IntKind.u64.wrap lab) 3 ++ be (IntKind.u64.wrap lab2) 3))))] else .ret (.tup [.qs 0 1 0 35, .int .i64 0]) [(0, some (.seq 5 ([.int .u8 2, .int .u8 33] ++ (be rd 8 ++ [.int .u8 e0, .int .u8 e1, .int .u8 e2, .int .u8 e3, .int .u8 e4, .int .u8 e5, .int .u8 e6, .int .u8 e7, .int .u8 e8, .int .u8 e9] ++ be (IntKind.u64.wrap tag) 4 ++ be 48 1 ++ be mac 6 ++ be 0 1 ++ be (IntKind.u64.wrap lab) 3))))] := by kernel_rfl
theorem rby_ok2false (rd e0 e1 e2 e3 e4 e5 e6 e7 e8 e9 tag mac ip : Int) (pip plen gw lab lab2 : Int) (hc : chk ⟨2, rd, e0, e1, e2, e3, e4, e5, e6, e7, e8, e9, tag, mac, ip, false, pip, plen, gw, lab, lab2⟩ = 0) (hok : OkP ⟨2, rd, e0, e1, e2, e3, e4, e5, e6, e7, e8, e9, tag, mac, ip, false, pip, plen, gw, lab, lab2⟩) : crun (opn κe Try.f14 [Nl.v ⟨2, rd, e0, e1, e2, e3, e4, e5, e6, e7, e8, e9, tag, mac, ip, false, pip, plen, gw, lab, lab2⟩] []) = some (.tup [.qs 0 1 0 (nb ⟨2, rd, e0, e1, e2, e3, e4, e5, e6, e7, e8, e9, tag, mac, ip, false, pip, plen, gw, lab, lab2⟩).length, .int .i64 0], [(0, some (.seq 5 (nb ⟨2, rd, e0, e1, e2, e3, e4, e5, e6, e7, e8, e9, tag, mac, ip, false, pip, plen, gw, lab, lab2⟩)))]) := by
  obtain ⟨rd0, rd1, tag0, tag1, mac0, mac1, ip0, ip1, pip0, pip1, pl0, pl1, gw0, gw1, lab0, lab1, lac0, lac1⟩ := hok
  simp only at rd0 rd1 tag0 tag1 mac0 mac1 ip0 ip1 pip0 pip1 pl0 pl1 gw0 gw1 lab0 lab1 lac0 lac1
  have w1 := wu_id tag0 (by omega)
  have w2 := wu_id ip0 (by omega)
  have w3 := wu_id pip0 (by omega)
  have w4 := w8_eq plen
  have w5 := wu_id gw0 (by omega)
  have w6 := wu_id lab0 (by omega)
  have w7 := wu_id lac0 (by omega)
  have w8 : plen / 256 ^ 0 % 256 = plen % 256 := by rw [Int.pow_zero, Int.ediv_one]
  rw [rby_t2false, hc]
  simp only [w1, w2, w3, w4, w5, w6, w7]
  cases hl : (lab2 != 0) with
  | true => simp only [nb, encL, val2, hl]; rfl
  | false => simp only [nb, encL, val2, hl]; rfl
theorem rby_t3 (rd e0 e1 e2 e3 e4 e5 e6 e7 e8 e9 tag mac ip : Int) (hip : Bool) (pip plen gw lab lab2 : Int) : opn κe Try.f14 [Nl.v ⟨3, rd, e0, e1, e2, e3, e4, e5, e6, e7, e8, e9, tag, mac, ip, hip, pip, plen, gw, lab, lab2⟩] [] =
  bif chk ⟨3, rd, e0, e1, e2, e3, e4, e5, e6, e7, e8, e9, tag, mac, ip, hip, pip, plen, gw, lab, lab2⟩ != 0 then .ret (.tup [.nils, .int .i64 (chk ⟨3, rd, e0, e1, e2, e3, e4, e5, e6, e7, e8, e9, tag, mac, ip, hip, pip, plen, gw, lab, lab2⟩)]) [] else .ret (.tup [.qs 0 1 0 19, .int .i64 0]) [(0, some (.seq 5 ([.int .u8 3, .int .u8 17] ++ (be rd 8 ++ be (IntKind.u64.wrap tag) 4 ++ be 32 1 ++ be (IntKind.u64.wrap ip) 4))))] := by kernel_rfl
theorem rby_ok3 (rd e0 e1 e2 e3 e4 e5 e6 e7 e8 e9 tag mac ip : Int) (hip : Bool) (pip plen gw lab lab2 : Int) (hc : chk ⟨3, rd, e0, e1, e2, e3, e4, e5, e6, e7, e8, e9, tag, mac, ip, hip, pip, plen, gw, lab, lab2⟩ = 0) (hok : OkP ⟨3, rd, e0, e1, e2, e3, e4, e5, e6, e7, e8, e9, tag, mac, ip, hip, pip, plen, gw, lab, lab2⟩) : crun (opn κe Try.f14 [Nl.v ⟨3, rd, e0, e1, e2, e3, e4, e5, e6, e7, e8, e9, tag, mac, ip, hip, pip, plen, gw, lab, lab2⟩] []) = some (.tup [.qs 0 1 0 (nb ⟨3, rd, e0, e1, e2, e3, e4, e5, e6, e7, e8, e9, tag, mac, ip, hip, pip, plen, gw, lab, lab2⟩).length, .int .i64 0], [(0, some (.seq 5 (nb ⟨3, rd, e0, e1, e2, e3, e4, e5, e6, e7, e8, e9, tag, mac, ip, hip, pip, plen, gw, lab, lab2⟩)))]) := by
  obtain ⟨rd0, rd1, tag0, tag1, mac0, mac1, ip0, ip1, pip0, pip1, pl0, pl1, gw0, gw1, lab0, lab1, lac0, lac1⟩ := hok
  simp only at rd0 rd1 tag0 tag1 mac0 mac1 ip0 ip1 pip0 pip1 pl0 pl1 gw0 gw1 lab0 lab1 lac0 lac1
  have w1 := wu_id tag0 (by omega)
  have w2 := wu_id ip0 (by omega)
  have w3 := wu_id pip0 (by omega)
  have w4 := w8_eq plen
  have w5 := wu_id gw0 (by omega)
  have w6 := wu_id lab0 (by omega)
  have w7 := wu_id lac0 (by omega)
  have w8 : plen / 256 ^ 0 % 256 = plen % 256 := by rw [Int.pow_zero, Int.ediv_one]
  rw [rby_t3, hc]
  simp only [w1, w2, w3, w4, w5, w6, w7]
  rfl
theorem rby_t4 (rd e0 e1 e2 e3 e4 e5 e6 e7 e8 e9 tag mac ip : Int) (hip : Bool) (pip plen gw lab lab2 : Int) : opn κe Try.f14 [Nl.v ⟨4, rd, e0, e1, e2, e3, e4, e5, e6, e7, e8, e9, tag, mac, ip, hip, pip, plen, gw, lab, lab2⟩] [] =
  bif chk ⟨4, rd, e0, e1, e2, e3, e4, e5, e6, e7, e8, e9, tag, mac, ip, hip, pip, plen, gw, lab, lab2⟩ != 0 then .ret (.tup [.nils, .int .i64 (chk ⟨4, rd, e0, e1, e2, e3, e4, e5, e6, e7, e8, e9, tag, mac, ip, hip, pip, plen, gw, lab, lab2⟩)]) [] else .ret (.tup [.qs 0 1 0 25, .int .i64 0]) [(0, some (.seq 5 ([.int .u8 4, .int .u8 23] ++ (be rd 8 ++ [.int .u8 e0, .int .u8 e1, .int .u8 e2, .int .u8 e3, .int .u8 e4, .int .u8 e5, .int .u8 e6, .int .u8 e7, .int .u8 e8, .int .u8 e9] ++ be 32 1 ++ be (IntKind.u64.wrap ip) 4))))] := by kernel_rfl
theorem rby_ok4 (rd e0 e1 e2 e3 e4 e5 e6 e7 e8 e9 tag mac ip : Int) (hip : Bool) (pip plen gw lab lab2 : Int) (hc : chk ⟨4, rd, e0, e1, e2, e3, e4, e5, e6, e7, e8, e9, tag, mac, ip, hip, pip, plen, gw, lab, lab2⟩ = 0) (hok : OkP ⟨4, rd, e0, e1, e2, e3, e4, e5, e6, e7, e8, e9, tag, mac, ip, hip, pip, plen, gw, lab, lab2⟩) : crun (opn κe Try.f14 [Nl.v ⟨4, rd, e0, e1, e2, e3, e4, e5, e6, e7, e8, e9, tag, mac, ip, hip, pip, plen, gw, lab, lab2⟩] []) = some (.tup [.qs 0 1 0 (nb ⟨4, rd, e0, e1, e2, e3, e4, e5, e6, e7, e8, e9, tag, mac, ip, hip, pip, plen, gw, lab, lab2⟩).length, .int .i64 0], [(0, some (.seq 5 (nb ⟨4, rd, e0, e1, e2, e3, e4, e5, e6, e7, e8, e9, tag, mac, ip, hip, pip, plen, gw, lab, lab2⟩)))]) := by
  obtain ⟨rd0, rd1, tag0, tag1, mac0, mac1, ip0, ip1, pip0, pip1, pl0, pl1, gw0, gw1, lab0, lab1, lac0, lac1⟩ := hok
  simp only at rd0 rd1 tag0 tag1 mac0 mac1 ip0 ip1 pip0 pip1 pl0 pl1 gw0 gw1 lab0 lab1 lac0 lac1
  have w1 := wu_id tag0 (by omega)
  have w2 := wu_id ip0 (by omega)
  have w3 := wu_id pip0 (by omega)
  have w4 := w8_eq plen
  have w5 := wu_id gw0 (by omega)
  have w6 := wu_id lab0 (by omega)
  have w7 := wu_id lac0 (by omega)
  have w8 : plen / 256 ^ 0 % 256 = plen % 256 := by rw [Int.pow_zero, Int.ediv_one]
  rw [rby_t4, hc]
  simp only [w1, w2, w3, w4, w5, w6, w7]
  rfl
theorem rby_t5 (rd e0 e1 e2 e3 e4 e5 e6 e7 e8 e9 tag mac ip : Int) (hip : Bool) (pip plen gw lab lab2 : Int) : opn κe Try.f14 [Nl.v ⟨5, rd, e0, e1, e2, e3, e4, e5, e6, e7, e8, e9, tag, mac, ip, hip, pip, plen, gw, lab, lab2⟩] [] =
  bif chk ⟨5, rd, e0, e1, e2, e3, e4, e5, e6, e7, e8, e9, tag, mac, ip, hip, pip, plen, gw, lab, lab2⟩ != 0 then .ret (.tup [.nils, .int .i64 (chk ⟨5, rd, e0, e1, e2, e3, e4, e5, e6, e7, e8, e9, tag, mac, ip, hip, pip, plen, gw, lab, lab2⟩)]) [] else .ret (.tup [.qs 0 1 0 36, .int .i64 0]) [(0, some (.seq 5 ([.int .u8 5, .int .u8 34] ++ (be rd 8 ++ [.int .u8 e0, .int .u8 e1, .int .u8 e2, .int .u8 e3, .int .u8 e4, .int .u8 e5, .int .u8 e6, .int .u8 e7, .int .u8 e8, .int .u8 e9] ++ be (IntKind.u64.wrap tag) 4 ++ [.int .u8 (IntKind.u8.wrap plen)] ++ be (IntKind.u64.wrap pip) 4 ++ be (IntKind.u64.wrap gw) 4 ++ be (IntKind.u64.wrap lab) 3))))] := by kernel_rfl
theorem rby_ok5 (rd e0 e1 e2 e3 e4 e5 e6 e7 e8 e9 tag mac ip : Int) (hip : Bool) (pip plen gw lab lab2 : Int) (hc : chk ⟨5, rd, e0, e1, e2, e3, e4, e5, e6, e7, e8, e9, tag, mac, ip, hip, pip, plen, gw, lab, lab2⟩ = 0) (hok : OkP ⟨5, rd, e0, e1, e2, e3, e4, e5, e6, e7, e8, e9, tag, mac, ip, hip, pip, plen, gw, lab, lab2⟩) : crun (opn κe Try.f14 [Nl.v ⟨5, rd, e0, e1, e2, e3, e4, e5, e6, e7, e8, e9, tag, mac, ip, hip, pip, plen, gw, lab, lab2⟩] []) = some (.tup [.qs 0 1 0 (nb ⟨5, rd, e0, e1, e2, e3, e4, e5, e6, e7, e8, e9, tag, mac, ip, hip, pip, plen, gw, lab, lab2⟩).length, .int .i64 0], [(0, some (.seq 5 (nb ⟨5, rd, e0, e1, e2, e3, e4, e5, e6, e7, e8, e9, tag, mac, ip, hip, pip, plen, gw, lab, lab2⟩)))]) := by
  obtain ⟨rd0, rd1, tag0, tag1, mac0, mac1, ip0, ip1, pip0, pip1, pl0, pl1, gw0, gw1, lab0, lab1, lac0, lac1⟩ := hok
  simp only at rd0 rd1 tag0 tag1 mac0 mac1 ip0 ip1 pip0 pip1 pl0 pl1 gw0 gw1 lab0 lab1 lac0 lac1
  have w1 := wu_id tag0 (by omega)
  have w2 := wu_id ip0 (by omega)
  have w3 := wu_id pip0 (by omega)
  have w4 := w8_eq plen
  have w5 := wu_id gw0 (by omega)
  have w6 := wu_id lab0 (by omega)
  have w7 := wu_id lac0 (by omega)
  have w8 : plen / 256 ^ 0 % 256 = plen % 256 := by rw [Int.pow_zero, Int.ediv_one]
  rw [rby_t5, hc]
  simp only [w1, w2, w3, w4, w5, w6, w7]
  rw [← w8]; rfl
theorem rbytes_k : Known Try.prog 14 nbytes_s := (openKnown eOk Try.func14 rfl).weak (by
  intro args H v ups h
  obtain ⟨n, hc, hok, rfl, rfl, rfl, rfl⟩ := nbytes_case h
  obtain ⟨kind, rd, e0, e1, e2, e3, e4, e5, e6, e7, e8, e9, tag, mac, ip, hip, pip, plen, gw, lab, lab2⟩ := n
  obtain hk | hk | hk | hk | hk := chk_kind hc <;> cases hk
  · exact rby_ok1 _ _ _ _ _ _ _ _ _ _ _ _ _ _ _ _ _ _ _ _ hc hok
  · cases hip with
    | true => exact rby_ok2true _ _ _ _ _ _ _ _ _ _ _ _ _ _ _ _ _ _ _ hc hok
    | false => exact rby_ok2false _ _ _ _ _ _ _ _ _ _ _ _ _ _ _ _ _ _ _ hc hok
  · exact rby_ok3 _ _ _ _ _ _ _ _ _ _ _ _ _ _ _ _ _ _ _ _ hc hok
  · exact rby_ok4 _ _ _ _ _ _ _ _ _ _ _ _ _ _ _ _ _ _ _ _ hc hok
  · exact rby_ok5 _ _ _ _ _ _ _ _ _ _ _ _ _ _ _ _ _ _ _ _ hc hok)
end Go.Proofs.Ytdgnhaacdpmclaa
/- Routes: lists. -/
namespace Go.Proofs.Ytdgnhaacdpmclaa
open Go.Am
set_option maxRecDepth 100000
def nlAt (x : SV) : Nl := ⟨asI (cellAt x 0), asI (cellAt x 1), asI (cellAt x 2), asI (cellAt x 3), asI (cellAt x 4), asI (cellAt x 5), asI (cellAt x 6), asI (cellAt x 7), asI (cellAt x 8), asI (cellAt x 9), asI (cellAt x 10), asI (cellAt x 11), asI (cellAt x 12), asI (cellAt x 13), asI (cellAt x 14), asB (cellAt x 15), asI (cellAt x 16), asI (cellAt x 17), asI (cellAt x 18), asI (cellAt x 19), asI (cellAt x 20)⟩
def rt (l : List SV) (i : Int) : Nl := nlAt (l.getD i.toNat .junk)
def nbAll : Nat → List SV → Int → List SV
  | 0, _, _ => []
  | k + 1, l, i => nb (rt l i) ++ nbAll k l (i + 1)
noncomputable def okAll : Nat → List SV → Int → Bool
  | 0, _, _ => true
  | k + 1, l, i => decide (chk (rt l i) = 0 ∧ OkP (rt l i)) && okAll k l (i + 1)
def lft (n i : Int) : Nat := (n - i).toNat
noncomputable def invR (l : List SV) (n i : Int) (m : Nat) : Bool := decide (0 ≤ i) && decide (i ≤ n) && decide (n = l.length) && decide (n ≤ 1000) && decide (m ≤ 60000) && okAll (lft n i) l i
noncomputable def encLs : CSumm
  | [.psl 47 l, .int .i64 n, .int .i64 i, .nils], [] => .ite (invR l n i 0) (.ite (decide (i < n)) (.ret (.tup [.int .i64 2, .qs 0 1 0 (nbAll (lft n i) l i).length]) [(0, some (.seq 5 (nbAll (lft n i) l i)))]) (.ret (.tup [.int .i64 2, .nils]) [])) .fail
  | [.psl 47 l, .int .i64 n, .int .i64 i, .qs 0 1 0 m], [(0, .seq 5 es)] => .ite (decide (m = es.length) && invR l n i (m + 42 * lft n i)) (.ite (decide (i < n)) (.ret (.tup [.int .i64 2, .qs 1 1 0 (es.length + (nbAll (lft n i) l i).length)]) [(0, none), (1, some (.seq 5 (es ++ nbAll (lft n i) l i)))]) (.ret (.tup [.int .i64 2, .qs 0 1 0 m]) [])) .fail
  | _, _ => .fail
def encM : List SV → HpL → Nat
  | [.psl _ _, .int _ n, .int _ i, _], _ => lft n i
  | _, _ => 0
noncomputable def body17 : Code := Try.f17.body.getD .skip
noncomputable def c17 : Code := (loopAt 3 body17).getD .skip
noncomputable def e17 : LEnt := { ins := [9, 10, 11, 4], outs := [4], keep := [], size := 28, code := c17, s := encLs }
noncomputable abbrev κf := tbl [(35, nbytes_s)]
theorem okf : KOk Try.prog κf := tbl_cons nbytes_k ok0
noncomputable abbrev κfo := openT Try.prog κf 300 5
noncomputable abbrev ιf : Nat → Bool := fun g => inl κf g && hasBody Try.prog g
/-- What comes behind a round of encode. -/
noncomputable def nextE (N : Nat) (l : List SV) (n i : Int) (nw : Nat) (ups : List (Nat × Option Chunk)) (m : Nat) (ys : List SV) : CTree :=
  bif Nat.blt (lft n i) N then bif decide (m = ys.length) && invR l n i (m + 42 * lft n i) then bif decide (i < n) then .ret (.tup [.int .i64 2, .qs nw 1 0 (ys.length + (nbAll (lft n i) l i).length)]) (ups ++ [(nw, some (.seq 5 (ys ++ nbAll (lft n i) l i)))])
   else .ret (.tup [.int .i64 2, .qs nw 1 0 m]) (ups ++ [(nw, some (.seq 5 ys))]) else .fail else .fail
noncomputable def growE (N : Nat) (l : List SV) (n i : Int) (nw : Nat) (ups : List (Nat × Option Chunk)) (m : Nat) (ys : List SV) : CTree :=
  bif lenOk m then bif decide ((m : Int) > 65535) then .ret (.tup [.int .i64 1, .qs nw 1 0 m]) (ups ++ [(nw, some (.seq 5 ys))]) else nextE N l n i nw ups m ys else .fail
noncomputable def bothE (xs : List SV) (g : List SV → CTree) : CTree :=
  bif decide (xs.length = xs.length) then g xs else bif decide (0 + xs.length ≤ xs.length) then g ((xs.drop 0).take xs.length) else .fail
theorem round17a (N : Nat) (l : List SV) (n i : Int) : loopOnce Try.prog κfo ιf (ltab []) true 300 e17 { e17 with s := boundT encM encLs N } c17 [.psl 47 l, .int .i64 n, .int .i64 i, .nils] [] =
  bif decide (i < n) then bif inB i l.length then bif decide (chk (rt l i) = 0 ∧ OkP (rt l i)) then bothE (nb (rt l i)) (fun ys => growE N l n (IntKind.i64.wrap (i + 1)) 0 [] (0 + ys.length) ys) else .fail else .fail else .ret (.tup [.int .i64 2, .nils]) [] := by kernel_rfl
theorem round17b (N : Nat) (l : List SV) (n i : Int) (m : Nat) (es : List SV) : loopOnce Try.prog κfo ιf (ltab []) true 300 e17 { e17 with s := boundT encM encLs N } c17 [.psl 47 l, .int .i64 n, .int .i64 i, .qs 0 1 0 m] [(0, .seq 5 es)] =
  bif decide (i < n) then bif inB i l.length then bif decide (chk (rt l i) = 0 ∧ OkP (rt l i)) then bif decide (m = es.length) then bothE (nb (rt l i)) (fun ys => growE N l n (IntKind.i64.wrap (i + 1)) 1 [(0, none)] (es.length + ys.length) (es ++ ys)) else .fail else .fail else .fail else .ret (.tup [.int .i64 2, .qs 0 1 0 m]) [] := by kernel_rfl
theorem invR_iff {l : List SV} {n i : Int} {m : Nat} : invR l n i m = true ↔ 0 ≤ i ∧ i ≤ n ∧ n = l.length ∧ n ≤ 1000 ∧ m ≤ 60000 ∧ okAll (lft n i) l i = true := by
  simp only [invR, Bool.and_eq_true, decide_eq_true_eq, and_assoc]
theorem lft_succ {n i : Int} (h : i < n) : lft n i = lft n (i + 1) + 1 := by unfold lft; omega
theorem lft_zero {n i : Int} (h : ¬i < n) : lft n i = 0 := by unfold lft; omega
theorem nb_len (n : Nl) : (nb n).length ≤ 42 := by
  obtain ⟨l1, l2, l3, l4, l5⟩ := val_len n
  unfold nb
  cases n.kind == 1 <;> cases n.kind == 2 <;> cases n.kind == 3 <;> cases n.kind == 4 <;> simp [encL] <;> omega
theorem nextE_ok {N : Nat} {l : List SV} {n i : Int} {nw : Nat} {ups : List (Nat × Option Chunk)} {ys : List SV} (h1 : lft n i < N) (h2 : invR l n i (ys.length + 42 * lft n i) = true) :
    nextE N l n i nw ups ys.length ys = .ret (.tup [.int .i64 2, .qs nw 1 0 (ys.length + (nbAll (lft n i) l i).length)]) (ups ++ [(nw, some (.seq 5 (ys ++ nbAll (lft n i) l i)))]) := by
  have hb : Nat.blt (lft n i) N = true := by rw [Nat.blt_eq]; exact h1
  unfold nextE
  rw [hb, h2, decide_eq_true rfl]
  by_cases hlt : i < n
  · rw [decide_eq_true hlt]; rfl
  · rw [decide_eq_false hlt, lft_zero hlt]
    simp [nbAll]
theorem roundE {N : Nat} {l : List SV} {n i : Int} {nw : Nat} {ups : List (Nat × Option Chunk)} {es : List SV} {m : Nat} (hlt : i < n) (hb : lft n i < N + 1) (hm : m = es.length) (h2 : invR l n i (es.length + 42 * lft n i) = true) :
    (bif inB i l.length then bif decide (chk (rt l i) = 0 ∧ OkP (rt l i)) then bothE (nb (rt l i)) (fun ys => growE N l n (IntKind.i64.wrap (i + 1)) nw ups (m + ys.length) (es ++ ys)) else .fail else .fail) =
      .ret (.tup [.int .i64 2, .qs nw 1 0 (es.length + (nbAll (lft n i) l i).length)]) (ups ++ [(nw, some (.seq 5 (es ++ nbAll (lft n i) l i)))]) := by
  subst hm
  obtain ⟨h0, h3, h4, h5, h6, h7⟩ := invR_iff.1 h2
  have hl := nb_len (rt l i)
  rw [lft_succ hlt] at h7
  simp only [okAll, Bool.and_eq_true, decide_eq_true_eq] at h7
  have hin : inB i l.length = true := by unfold inB; simp; omega
  have hle : lft n (i + 1) + 1 = lft n i := (lft_succ hlt).symm
  have hw : IntKind.i64.wrap (i + 1) = i + 1 := w64_id (by omega) (by omega)
  have hi2 : invR l n (i + 1) ((es ++ nb (rt l i)).length + 42 * lft n (i + 1)) = true := invR_iff.2 ⟨by omega, by omega, h4, h5, by rw [List.length_append]; omega, h7.2⟩
  have hlen : es.length + (nb (rt l i)).length ≤ 60000 := by omega
  rw [hin, decide_eq_true h7.1, hw]
  simp only [bothE, growE, cond_true, decide_true]
  rw [lenOk_t (by omega), decide_eq_false (by omega), ← List.length_append, cond_true, cond_false, nextE_ok (by omega) hi2, ← hle]
  simp [nbAll, Nat.add_assoc]
theorem encode_valid : ValidL Try.prog e17 := loop_valid (κ := κfo) (ι := ιf) (T := ltab []) (sp := true) (fuel := 300) (c := c17) (μ := encM) (openT_ok noNumTry mixTry okf 300 5) mixTry ltab_nil (show fillC (ltab []) c17 = c17 by kernel_rfl) (by
  intro N args H r hb hr
  have hr' : crun (encLs args H) = some r := hr
  unfold encLs at hr'
  split at hr'
  · rename_i l n i
    rw [crun_ite, crun_ite] at hr'
    cases hc : invR l n i 0 with
    | false => rw [hc] at hr'; cases hr'
    | true =>
      rw [hc, cond_true] at hr'
      have hb' : lft n i < N + 1 := by
        have : Nat.blt (lft n i) (N + 1) = true := hb
        rwa [Nat.blt_eq] at this
      rw [← hr']
      refine (congrArg crun (round17a N l n i)).trans ?_
      by_cases hlt : i < n
      · obtain ⟨h0, h3, h4, h5, h6, h7⟩ := invR_iff.1 hc
        rw [decide_eq_true hlt]
        have := roundE (N := N) (l := l) (n := n) (i := i) (nw := 0) (ups := []) (es := []) hlt hb' rfl (invR_iff.2 ⟨h0, h3, h4, h5, by unfold lft; simp; omega, h7⟩)
        simp only [List.nil_append, List.length_nil, Nat.zero_add] at this
        simp only [Nat.zero_add, cond_true]
        rw [this]
      · rw [decide_eq_false hlt]; rfl
  · rename_i l n i m es
    rw [crun_ite, crun_ite] at hr'
    cases hc : (decide (m = es.length) && invR l n i (m + 42 * lft n i)) with
    | false => rw [hc] at hr'; cases hr'
    | true =>
      rw [hc, cond_true] at hr'
      rw [Bool.and_eq_true, decide_eq_true_eq] at hc
      obtain ⟨rfl, hi⟩ := hc
      have hb' : lft n i < N + 1 := by
        have : Nat.blt (lft n i) (N + 1) = true := hb
        rwa [Nat.blt_eq] at this
      rw [← hr']
      refine (congrArg crun (round17b N l n i es.length es)).trans ?_
      by_cases hlt : i < n
      · rw [decide_eq_true hlt, decide_eq_true rfl]
        simp only [cond_true]
        rw [roundE (N := N) (nw := 1) (ups := [(0, none)]) hlt hb' rfl hi]
        rfl
      · rw [decide_eq_false hlt]; rfl
  · cases hr')
noncomputable abbrev T17 : LTab := ltab [("s", e17)]
noncomputable def m17 : Code := markC [(3, "s")] body17
theorem fill17 : Try.f17.body = some (fillC T17 m17) := by kernel_rfl
noncomputable abbrev encode_b : CSumm := bodyCL Try.prog κfo ιf T17 true 300 Try.f17 m17
theorem encode_t (l : List SV) : encode_b [.psl 47 l] [] = bif invR l l.length 0 0 then bif decide ((0 : Int) < l.length) then .ret (.tup [.qs 0 1 0 (nbAll (lft l.length 0) l 0).length, .bool true]) [(0, some (.seq 5 (nbAll (lft l.length 0) l 0)))] else .ret (.tup [.nils, .bool true]) [] else .fail := by kernel_rfl
/-- The bytes of routes. -/
def nbs (l : List SV) : List SV := nbAll l.length l 0
noncomputable def okR (l : List SV) : Bool := decide (l.length ≤ 1000) && okAll l.length l 0
noncomputable def encs_s : CSumm
  | [.psl 47 l], [] => .ite (okR l) (.ret (.tup [.qs 0 1 0 (nbs l).length, .bool true]) [(0, some (.seq 5 (nbs l)))]) .fail
  | _, _ => .fail
theorem encs_k : Known Try.prog 17 encs_s := known_grown1 (s := encode_b) ⟨⟨Try.f17, Try.func17, noNum_at noNumTry Try.func17, rfl⟩, bodyL_valid (openT_ok noNumTry mixTry okf 300 5) mixTry (ltab_cons encode_valid ltab_nil) Try.func17 fill17⟩ (by
  intro args H v ups h
  unfold encs_s at h
  split at h
  · rename_i l
    rw [crun_ite] at h
    cases hc : okR l with
    | false => rw [hc] at h; cases h
    | true =>
      rw [hc] at h
      cases h
      simp only [okR, Bool.and_eq_true, decide_eq_true_eq] at hc
      have hl : lft (l.length : Int) 0 = l.length := by unfold lft; omega
      have hi : invR l l.length 0 0 = true := invR_iff.2 ⟨by omega, by omega, rfl, by omega, by omega, by rw [hl]; exact hc.2⟩
      by_cases h0 : (0 : Int) < l.length
      · left
        rw [encode_t, hi, decide_eq_true h0, hl]; rfl
      · right
        have hz : l = [] := List.length_eq_zero_iff.1 (by omega)
        subst hz
        refine ⟨.bool true, 1, 5, rfl, rfl, rfl, rfl, rfl, ?_⟩
        rw [encode_t, hi, decide_eq_false h0]; rfl
  · cases h)
end Go.Proofs.Ytdgnhaacdpmclaa
/- Routes: lists by the reference. -/
namespace Go.Proofs.Ytdgnhaacdpmclaa
open Go.Am
set_option maxRecDepth 100000
noncomputable def routLs : CSumm
  | [.sl 0 1 0 3, .psl 47 l, .int .i64 i], [(0, .cells 5 [.int .u8 a, .int .u8 b, .int .u8 c])] => .ite (invR l l.length i (3 + 42 * lft l.length i)) (.ite (decide (i < l.length)) (.ret (.tup [.int .i64 2, .qs 1 1 0 (3 + (nbAll (lft l.length i) l i).length)]) [(0, none), (1, some (.seq 5 ([.int .u8 a, .int .u8 b, .int .u8 c] ++ nbAll (lft l.length i) l i)))]) (.ret (.tup [.int .i64 2, .sl 0 1 0 3]) [])) .fail
  | [.qs 0 1 0 m, .psl 47 l, .int .i64 i], [(0, .seq 5 es)] => .ite (decide (m = es.length) && invR l l.length i (m + 42 * lft l.length i)) (.ite (decide (i < l.length)) (.ret (.tup [.int .i64 2, .qs 1 1 0 (es.length + (nbAll (lft l.length i) l i).length)]) [(0, none), (1, some (.seq 5 (es ++ nbAll (lft l.length i) l i)))]) (.ret (.tup [.int .i64 2, .qs 0 1 0 m]) [])) .fail
  | _, _ => .fail
def routM : List SV → HpL → Nat
  | [_, .psl _ l, .int _ i], _ => lft l.length i
  | _, _ => 0
noncomputable def body28 : Code := Try.f28.body.getD .skip
noncomputable def c28 : Code := (loopAt 2 body28).getD .skip
noncomputable def e28 : LEnt := { ins := [0, 1, 5], outs := [0], keep := [], size := 26, code := c28, s := routLs }
noncomputable abbrev κg := tbl [(14, nbytes_s)]
theorem okg : KOk Try.prog κg := tbl_cons rbytes_k ok0
noncomputable abbrev κgo := openT Try.prog κg 300 5
noncomputable abbrev ιg : Nat → Bool := fun g => inl κg g && hasBody Try.prog g
noncomputable def growF (N : Nat) (l : List SV) (i : Int) (m : Nat) (ys : List SV) : CTree :=
  bif lenOk m then nextE N l l.length i 1 [(0, none)] m ys else .fail
theorem round28a (N : Nat) (l : List SV) (i a b c : Int) : loopOnce Try.prog κgo ιg (ltab []) true 300 e28 { e28 with s := boundT routM routLs N } c28 [.sl 0 1 0 3, .psl 47 l, .int .i64 i] [(0, .cells 5 [.int .u8 a, .int .u8 b, .int .u8 c])] =
  bif decide (i < l.length) then bif inB i l.length then bif decide (chk (rt l i) = 0 ∧ OkP (rt l i)) then bothE (nb (rt l i)) (fun ys => growF N l (IntKind.i64.wrap (i + 1)) (3 + ys.length) ([.int .u8 a, .int .u8 b, .int .u8 c] ++ ys)) else .fail else .fail else .ret (.tup [.int .i64 2, .sl 0 1 0 3]) [] := by kernel_rfl
theorem round28b (N : Nat) (l : List SV) (i : Int) (m : Nat) (es : List SV) : loopOnce Try.prog κgo ιg (ltab []) true 300 e28 { e28 with s := boundT routM routLs N } c28 [.qs 0 1 0 m, .psl 47 l, .int .i64 i] [(0, .seq 5 es)] =
  bif decide (i < l.length) then bif inB i l.length then bif decide (chk (rt l i) = 0 ∧ OkP (rt l i)) then bif decide (m = es.length) then bothE (nb (rt l i)) (fun ys => growF N l (IntKind.i64.wrap (i + 1)) (es.length + ys.length) (es ++ ys)) else .fail else .fail else .fail else .ret (.tup [.int .i64 2, .qs 0 1 0 m]) [] := by kernel_rfl
theorem roundF {N : Nat} {l : List SV} {i : Int} {es : List SV} {m : Nat} (hlt : i < l.length) (hb : lft l.length i < N + 1) (hm : m = es.length) (h2 : invR l l.length i (es.length + 42 * lft l.length i) = true) :
    (bif inB i l.length then bif decide (chk (rt l i) = 0 ∧ OkP (rt l i)) then bothE (nb (rt l i)) (fun ys => growF N l (IntKind.i64.wrap (i + 1)) (m + ys.length) (es ++ ys)) else .fail else .fail) =
      .ret (.tup [.int .i64 2, .qs 1 1 0 (es.length + (nbAll (lft l.length i) l i).length)]) [(0, none), (1, some (.seq 5 (es ++ nbAll (lft l.length i) l i)))] := by
  subst hm
  obtain ⟨h0, h3, h4, h5, h6, h7⟩ := invR_iff.1 h2
  have hl := nb_len (rt l i)
  rw [lft_succ hlt] at h7
  simp only [okAll, Bool.and_eq_true, decide_eq_true_eq] at h7
  have hin : inB i l.length = true := by unfold inB; simp; omega
  have hle : lft l.length (i + 1) + 1 = lft l.length i := (lft_succ hlt).symm
  have hw : IntKind.i64.wrap (i + 1) = i + 1 := w64_id (by omega) (by omega)
  have hi2 : invR l l.length (i + 1) ((es ++ nb (rt l i)).length + 42 * lft l.length (i + 1)) = true := invR_iff.2 ⟨by omega, by omega, h4, h5, by rw [List.length_append]; omega, h7.2⟩
  have hlen : es.length + (nb (rt l i)).length ≤ 60000 := by omega
  rw [hin, decide_eq_true h7.1, hw]
  simp only [bothE, growF, cond_true, decide_true]
  rw [lenOk_t (by omega), ← List.length_append, cond_true, nextE_ok (by omega) hi2, ← hle]
  simp [nbAll, Nat.add_assoc]
theorem routes_valid : ValidL Try.prog e28 := loop_valid (κ := κgo) (ι := ιg) (T := ltab []) (sp := true) (fuel := 300) (c := c28) (μ := routM) (openT_ok noNumTry mixTry okg 300 5) mixTry ltab_nil (show fillC (ltab []) c28 = c28 by kernel_rfl) (by
  intro N args H r hb hr
  have hr' : crun (routLs args H) = some r := hr
  unfold routLs at hr'
  split at hr'
  · rename_i l i a b c
    rw [crun_ite, crun_ite] at hr'
    cases hc : invR l l.length i (3 + 42 * lft l.length i) with
    | false => rw [hc] at hr'; cases hr'
    | true =>
      rw [hc, cond_true] at hr'
      have hb' : lft l.length i < N + 1 := by
        have : Nat.blt (lft l.length i) (N + 1) = true := hb
        rwa [Nat.blt_eq] at this
      rw [← hr']
      refine (congrArg crun (round28a N l i a b c)).trans ?_
      by_cases hlt : i < l.length
      · rw [decide_eq_true hlt]
        simp only [cond_true]
        exact congrArg crun (roundF (N := N) (es := [.int .u8 a, .int .u8 b, .int .u8 c]) (m := 3) hlt hb' rfl hc)
      · rw [decide_eq_false hlt]; rfl
  · rename_i m l i es
    rw [crun_ite, crun_ite] at hr'
    cases hc : (decide (m = es.length) && invR l l.length i (m + 42 * lft l.length i)) with
    | false => rw [hc] at hr'; cases hr'
    | true =>
      rw [hc, cond_true] at hr'
      rw [Bool.and_eq_true, decide_eq_true_eq] at hc
      obtain ⟨rfl, hi⟩ := hc
      have hb' : lft l.length i < N + 1 := by
        have : Nat.blt (lft l.length i) (N + 1) = true := hb
        rwa [Nat.blt_eq] at this
      rw [← hr']
      refine (congrArg crun (round28b N l i es.length es)).trans ?_
      by_cases hlt : i < l.length
      · rw [decide_eq_true hlt, decide_eq_true rfl]
        simp only [cond_true]
        rw [roundF (N := N) hlt hb' rfl hi]
      · rw [decide_eq_false hlt]; rfl
  · cases hr')
noncomputable abbrev T28 : LTab := ltab [("s", e28)]
noncomputable def m28 : Code := markC [(2, "s")] body28
theorem fill28 : Try.f28.body = some (fillC T28 m28) := by kernel_rfl
noncomputable abbrev routes_b : CSumm := bodyCL Try.prog κgo ιg T28 true 300 Try.f28 m28
theorem routes_ta (l : List SV) (a b c : Int) : routes_b [.sl 0 1 0 3, .psl 47 l] [(0, .cells 5 [.int .u8 a, .int .u8 b, .int .u8 c])] =
  bif invR l l.length 0 (3 + 42 * lft l.length 0) then bif decide ((0 : Int) < l.length) then .ret (.qs 1 1 0 (3 + (nbAll (lft l.length 0) l 0).length)) [(0, none), (1, some (.seq 5 ([.int .u8 a, .int .u8 b, .int .u8 c] ++ nbAll (lft l.length 0) l 0)))] else .ret (.sl 0 1 0 3) [] else .fail := by kernel_rfl
theorem routes_tb (l : List SV) (m : Nat) (es : List SV) : routes_b [.qs 0 1 0 m, .psl 47 l] [(0, .seq 5 es)] =
  bif decide (m = es.length) && invR l l.length 0 (m + 42 * lft l.length 0) then bif decide ((0 : Int) < l.length) then .ret (.qs 1 1 0 (es.length + (nbAll (lft l.length 0) l 0).length)) [(0, none), (1, some (.seq 5 (es ++ nbAll (lft l.length 0) l 0)))] else .ret (.qs 0 1 0 m) [] else .fail := by kernel_rfl
theorem routes_k0 : Known Try.prog 28 routes_b := ⟨⟨Try.f28, Try.func28, noNum_at noNumTry Try.func28, rfl⟩, bodyL_valid (openT_ok noNumTry mixTry okg 300 5) mixTry (ltab_cons routes_valid ltab_nil) Try.func28 fill28⟩
end Go.Proofs.Ytdgnhaacdpmclaa
/- Checks of attributes and routes. -/
namespace Go.Proofs.Ytdgnhaacdpmclaa
open Go.Am
set_option maxRecDepth 100000
/-- The first fault of routes, from the i-th on; 0: none. -/
def fst : Nat → List SV → Int → Int
  | 0, _, _ => 0
  | k + 1, l, i => bif chk (rt l i) != 0 then chk (rt l i) else fst k l (i + 1)
noncomputable def chLs : CSumm
  | [.psl 47 l, .int .i64 n, .int .i64 i, .int .i64 r], [] => .ite (decide (0 ≤ i) && decide (i ≤ n) && decide (n = l.length) && decide (n ≤ 1000)) (.ite (fst (lft n i) l i != 0) (.ret (.tup [.int .i64 1, .int .i64 (fst (lft n i) l i)]) []) (.ret (.tup [.int .i64 4, .int .i64 r]) [])) .fail
  | _, _ => .fail
def chM : List SV → HpL → Nat
  | [.psl _ _, .int _ n, .int _ i, _], _ => lft n i
  | _, _ => 0
noncomputable def body16 : Code := Try.f16.body.getD .skip
noncomputable def c16 : Code := (loopAt 10 body16).getD .skip
noncomputable def e16 : LEnt := { ins := [32, 33, 34, 6], outs := [6], keep := [28, 29], size := 45, code := c16, s := chLs }
noncomputable abbrev κh := tbl [(34, check_s)]
theorem okh : KOk Try.prog κh := tbl_cons ncheck_k ok0
noncomputable abbrev κho := openT Try.prog κh 300 5
noncomputable abbrev ιh : Nat → Bool := fun g => inl κh g && hasBody Try.prog g
theorem round16 (N : Nat) (l : List SV) (n i r : Int) : loopOnce Try.prog κho ιh (ltab []) true 300 e16 { e16 with s := boundT chM chLs N } c16 [.psl 47 l, .int .i64 n, .int .i64 i, .int .i64 r] [] =
  bif decide (i < n) then bif inB i l.length then bif chk (rt l i) != 0 then .ret (.tup [.int .i64 1, .int .i64 (chk (rt l i))]) [] else
    bif Nat.blt (lft n (IntKind.i64.wrap (i + 1))) N then bif decide (0 ≤ IntKind.i64.wrap (i + 1)) && decide (IntKind.i64.wrap (i + 1) ≤ n) && decide (n = l.length) && decide (n ≤ 1000) then
      bif fst (lft n (IntKind.i64.wrap (i + 1))) l (IntKind.i64.wrap (i + 1)) != 0 then .ret (.tup [.int .i64 1, .int .i64 (fst (lft n (IntKind.i64.wrap (i + 1))) l (IntKind.i64.wrap (i + 1)))]) [] else .ret (.tup [.int .i64 4, .int .i64 r]) [] else .fail else .fail
  else .fail else .ret (.tup [.int .i64 4, .int .i64 r]) [] := by kernel_rfl
theorem check_valid : ValidL Try.prog e16 := loop_valid (κ := κho) (ι := ιh) (T := ltab []) (sp := true) (fuel := 300) (c := c16) (μ := chM) (openT_ok noNumTry mixTry okh 300 5) mixTry ltab_nil (show fillC (ltab []) c16 = c16 by kernel_rfl) (by
  intro N args H r hb hr
  have hr' : crun (chLs args H) = some r := hr
  unfold chLs at hr'
  split at hr'
  · rename_i l n i r0
    rw [crun_ite, crun_ite] at hr'
    cases hc : (decide (0 ≤ i) && decide (i ≤ n) && decide (n = l.length) && decide (n ≤ 1000)) with
    | false => rw [hc] at hr'; cases hr'
    | true =>
      rw [hc, cond_true] at hr'
      simp only [Bool.and_eq_true, decide_eq_true_eq] at hc
      obtain ⟨⟨⟨h0, h1⟩, h2⟩, h3⟩ := hc
      have hb' : lft n i < N + 1 := by
        have : Nat.blt (lft n i) (N + 1) = true := hb
        rwa [Nat.blt_eq] at this
      rw [← hr']
      refine (congrArg crun (round16 N l n i r0)).trans ?_
      by_cases hlt : i < n
      · have hs := lft_succ hlt
        have hw : IntKind.i64.wrap (i + 1) = i + 1 := w64_id (by omega) (by omega)
        have hin : inB i l.length = true := by unfold inB; simp; omega
        have hbb : Nat.blt (lft n (i + 1)) N = true := by rw [Nat.blt_eq]; omega
        have hcc : (decide (0 ≤ i + 1) && decide (i + 1 ≤ n) && decide (n = l.length) && decide (n ≤ 1000)) = true := by simp only [Bool.and_eq_true, decide_eq_true_eq]; omega
        rw [decide_eq_true hlt, hin, hw, hbb, hcc, hs]
        simp only [fst, cond_true]
        cases hk : (chk (rt l i) != 0) with
        | true => simp only [cond_true, hk]
        | false =>
          simp only [cond_false]
          cases fst (lft n (i + 1)) l (i + 1) != 0 <;> rfl
      · rw [decide_eq_false hlt, lft_zero hlt]; rfl
  · cases hr')
noncomputable abbrev T16 : LTab := ltab [("s", e16)]
noncomputable def m16 : Code := markC [(10, "s")] body16
theorem fill16 : Try.f16.body = some (fillC T16 m16) := by kernel_rfl
end Go.Proofs.Ytdgnhaacdpmclaa
/- Checks of attributes. -/
namespace Go.Proofs.Ytdgnhaacdpmclaa
open Go.Am
set_option maxRecDepth 100000
def ck1 (a : At) : Bool := bif decide (a.ori < 0) then true else decide (a.ori > 2)
def ck2 (a : At) : Bool := bif bif decide ((a.path.length : Int) > 32) then true else decide ((a.cl.length : Int) > 16) then true else decide ((a.cm.length : Int) > 64)
def ck3 (a : At) : Bool := bif bif bif !a.hm then a.med != 0 else false then true else bif !a.hp then a.prf != 0 else false then true else bif !a.ho then a.orr != 0 else false
def ck4 (a : At) : Bool := bif bif a.tk != 0 then a.tk != 3 else false then a.tk != 6 else false
def ck5 (a : At) : Bool := decide (a.tl > 16777215)
def ck6 (a : At) : Bool := bif a.tk == 0 then !(a.tk == 0 && (a.tl == 0 && (a.tr == 0 && a.tg == 0))) else false
def ck7 (a : At) : Bool := bif a.tk == 6 then a.tg != 0 else false
def achk (a : At) : Int := bif ck1 a then 2 else bif ck2 a then 5 else bif ck3 a then 3 else bif ck4 a then 6 else bif ck5 a then 2 else bif bif ck6 a then true else ck7 a then 3 else 0
def azero (a : At) : Bool :=
  bif bif bif bif bif bif bif bif bif bif bif a.ori == 0 then (a.path.length : Int) == 0 else false then a.nx == 0 else false then !a.hm else false then a.med == 0 else false then !a.hp else false then a.prf == 0 else false then !a.ho else false then a.orr == 0 else false then (a.cl.length : Int) == 0 else false then (a.cm.length : Int) == 0 else false then a.tk == 0 && (a.tl == 0 && (a.tr == 0 && a.tg == 0)) else false
theorem acheck_t (a : At) : opn (tbl []) Try.f10 [a.v] [] = bif ck1 a then .ret (.int .i64 2) [] else bif ck2 a then .ret (.int .i64 5) [] else bif ck3 a then .ret (.int .i64 3) [] else bif ck4 a then .ret (.int .i64 6) [] else bif ck5 a then .ret (.int .i64 2) [] else bif bif ck6 a then true else ck7 a then .ret (.int .i64 3) [] else .ret (.int .i64 0) [] := by kernel_rfl
theorem acheckR_t (a : At) : opn (tbl []) Try.f11 [a.v] [] = bif ck1 a then .ret (.int .i64 2) [] else bif ck2 a then .ret (.int .i64 5) [] else bif ck3 a then .ret (.int .i64 3) [] else bif ck4 a then .ret (.int .i64 6) [] else bif ck5 a then .ret (.int .i64 2) [] else bif ck6 a then (bif ck6 a then .ret (.int .i64 3) [] else .ret (.int .i64 0) []) else bif ck7 a then .ret (.int .i64 3) [] else .ret (.int .i64 0) [] := by kernel_rfl
theorem azero_t (a : At) : opn (tbl []) Try.f12 [a.v] [] = .ret (.bool (azero a)) [] := by kernel_rfl
theorem azeroR_t (a : At) : opn (tbl []) Try.f13 [a.v] [] = .ret (.bool (azero a)) [] := by kernel_rfl
def atOf : SV → Option At
  | .agg [.int .i64 ori, .psl 23 path, .int .u32 nx, .bool hm, .int .u32 med, .bool hp, .int .u32 prf, .bool ho, .int .u32 orr, .psl 24 cl, .psl 72 cm, .int .i64 tk, .int .u32 tl, .int .u32 tr, .int .u32 tg] => some ⟨ori, path, nx, hm, med, hp, prf, ho, orr, cl, cm, tk, tl, tr, tg⟩
  | _ => none
theorem atOf_v {x : SV} {a : At} (h : atOf x = some a) : x = a.v := by
  unfold atOf at h
  split at h
  · cases h; rfl
  · cases h
def oneA (r : At → SV) : CSumm := fun args H => match args, H with
  | [x], [] => match atOf x with
    | some a => .ret (r a) []
    | none => .fail
  | _, _ => .fail
theorem oneA_case {r : At → SV} {args : List SV} {H : HpL} {v : SV} {ups : List (Nat × Option Chunk)} (h : crun (oneA r args H) = some (v, ups)) : ∃ a : At, args = [a.v] ∧ H = [] ∧ v = r a ∧ ups = [] := by
  unfold oneA at h
  split at h
  · rename_i x
    split at h
    · rename_i a ha
      cases h
      exact ⟨a, by rw [atOf_v ha], rfl, rfl, rfl⟩
    · cases h
  · cases h
abbrev acheck_s : CSumm := oneA (fun a => .int .i64 (achk a))
abbrev azero_s : CSumm := oneA (fun a => .bool (azero a))
theorem acheck_k : Known Try.prog 10 acheck_s := (openKnown ok0 Try.func10 rfl).weak (by
  intro args H v ups h
  obtain ⟨a, rfl, rfl, rfl, rfl⟩ := oneA_case h
  rw [acheck_t]
  unfold achk
  cases ck1 a <;> cases ck2 a <;> cases ck3 a <;> cases ck4 a <;> cases ck5 a <;> cases ck6 a <;> cases ck7 a <;> rfl)
theorem acheckR_k : Known Try.prog 11 acheck_s := (openKnown ok0 Try.func11 rfl).weak (by
  intro args H v ups h
  obtain ⟨a, rfl, rfl, rfl, rfl⟩ := oneA_case h
  rw [acheckR_t]
  unfold achk
  cases ck1 a <;> cases ck2 a <;> cases ck3 a <;> cases ck4 a <;> cases ck5 a <;> cases ck6 a <;> cases ck7 a <;> rfl)
theorem azero_k : Known Try.prog 12 azero_s := (openKnown ok0 Try.func12 rfl).weak (by
  intro args H v ups h
  obtain ⟨a, rfl, rfl, rfl, rfl⟩ := oneA_case h
  rw [azero_t]; rfl)
theorem azeroR_k : Known Try.prog 13 azero_s := (openKnown ok0 Try.func13 rfl).weak (by
  intro args H v ups h
  obtain ⟨a, rfl, rfl, rfl, rfl⟩ := oneA_case h
  rw [azeroR_t]; rfl)
/-- Both checks. -/
noncomputable abbrev κi := tbl [(34, check_s), (10, acheck_s), (12, azero_s)]
theorem oki : KOk Try.prog κi := tbl_cons ncheck_k (tbl_cons acheck_k (tbl_cons azero_k ok0))
def fsts (l : List SV) : Int := fst l.length l 0
end Go.Proofs.Ytdgnhaacdpmclaa
