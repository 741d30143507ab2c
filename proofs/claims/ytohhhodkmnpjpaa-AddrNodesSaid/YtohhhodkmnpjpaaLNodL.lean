/- Nodes and segments: the plain law. -/
import Derived.Test.YtohhhodkmnpjpaaLNod
import Derived.KernelRfl
namespace Go.Proofs.Ytohhhodkmnpjpaa
open Go.Am
set_option maxRecDepth 100000
def nodT (n k : Int) : CTree :=
  bif
      bif
          bif !(errI n 32 == 0) == bif decide (n ≥ 0) then decide (n < 32) else false then true
          else errI n 32 != errI n 32 then
        true
      else !(errI n 64 == 0) == bif decide (n ≥ 0) then decide (n < 64) else false then
    CTree.ret (SV.bool false) []
  else
    bif errI n 32 == 0 then
      bif
          bif
              bif
                  bif bif bif !!ndO (loV n) then true else ndV (loV n) != n then true else !!rnO (rmV n) then true
                  else rnV (rmV n) != n then
                true
              else bif errI k 32 == 0 then !(loV n == loV k) == (n == k) else false then
            true
          else mcB (rmV n) then
        CTree.ret (SV.bool false) []
      else
        bif errI n 64 != 0 then
          CTree.ret
            (SV.bool
              (sgA n == 0 &&
                (0 == 0 &&
                  (0 == 0 && (0 == 0 && (0 == 0 && (0 == 0 && (0 == 0 && (0 == 0 && (0 == 0 && sgB n == 0))))))))))
            []
        else
          bif !esO [sgA n, 0, 0, 0, 0, 0, 0, 0, 0, sgB n] (sgB n) then
            bif (bif esO [sgA n, 0, 0, 0, 0, 0, 0, 0, 0, sgB n] (sgB n) then 0 else esN (sgB n)) == n then
              bif errI k 64 != 0 then CTree.ret (SV.bool !allZ [sgA n, 0, 0, 0, 0, 0, 0, 0, 0, sgB n]) []
              else
                bif
                    (sgA n == sgA k &&
                        (0 == 0 &&
                          (0 == 0 &&
                            (0 == 0 && (0 == 0 && (0 == 0 && (0 == 0 && (0 == 0 && (0 == 0 && sgB n == sgB k))))))))) ==
                      (n == k) then
                  CTree.ret (SV.bool !allZ [sgA n, 0, 0, 0, 0, 0, 0, 0, 0, sgB n]) []
                else CTree.ret (SV.bool false) []
            else CTree.ret (SV.bool false) []
          else CTree.ret (SV.bool false) []
    else
      bif errI n 64 != 0 then
        CTree.ret
          (SV.bool
            (sgA n == 0 &&
              (0 == 0 && (0 == 0 && (0 == 0 && (0 == 0 && (0 == 0 && (0 == 0 && (0 == 0 && (0 == 0 && sgB n == 0))))))))))
          []
      else
        bif !esO [sgA n, 0, 0, 0, 0, 0, 0, 0, 0, sgB n] (sgB n) then
          bif (bif esO [sgA n, 0, 0, 0, 0, 0, 0, 0, 0, sgB n] (sgB n) then 0 else esN (sgB n)) == n then
            bif errI k 64 != 0 then CTree.ret (SV.bool !allZ [sgA n, 0, 0, 0, 0, 0, 0, 0, 0, sgB n]) []
            else
              bif
                  (sgA n == sgA k &&
                      (0 == 0 &&
                        (0 == 0 &&
                          (0 == 0 && (0 == 0 && (0 == 0 && (0 == 0 && (0 == 0 && (0 == 0 && sgB n == sgB k))))))))) ==
                    (n == k) then
                CTree.ret (SV.bool !allZ [sgA n, 0, 0, 0, 0, 0, 0, 0, 0, sgB n]) []
              else CTree.ret (SV.bool false) []
          else CTree.ret (SV.bool false) []
        else CTree.ret (SV.bool false) []

theorem nod_t (n k : Int) : bodyS Try.prog κn Try.f5 [.int .i64 n, .int .i64 k] [] = nodT n k := by kernel_rfl

def isTrue : CTree → Bool
  | .ret (.bool true) [] => true
  | .ret _ _ => false
  | .ite b t e => if b then isTrue t else isTrue e
  | .fail => false
theorem isTrue_crun : ∀ {t : CTree}, isTrue t = true → crun t = some (.bool true, [])
  | .ret v ups, h => by
    unfold isTrue at h
    split at h
    · rename_i e
      cases e; rfl
    · cases h
    · rename_i e; cases e
    · rename_i e; cases e
  | .ite b t e, h => by
    simp only [isTrue, crun] at h ⊢
    cases b
    · simp only [Bool.false_eq_true, if_false] at h ⊢; exact isTrue_crun h
    · simp only [if_true] at h ⊢; exact isTrue_crun h
  | .fail, h => by simp [isTrue] at h

theorem oor_out {n m : Int} (h : n < 0 ∨ m ≤ n) : oor n m = true := by
  unfold oor
  rcases h with h | h
  · simp [h]
  · cases hd : decide (n < 0)
    · simp; omega
    · rfl
def upto : Nat → List Nat
  | 0 => []
  | n + 1 => n :: upto n
theorem upto_mem : ∀ {n m : Nat}, m < n → m ∈ upto n
  | 0, _, h => by omega
  | n + 1, m, h => by
    by_cases e : m = n
    · subst e; simp [upto]
    · have := upto_mem (show m < n by omega)
      simp [upto, this]
theorem in_ok : (upto 64).all (fun m => (100 :: upto 64).all fun j => isTrue (nodT (m : Int) (j : Int))) = true := by kernel_rfl
theorem out_ok : (100 :: upto 64).all (fun j => isTrue (nodT 100 (j : Int))) = true := by kernel_rfl

theorem errI_out {k m : Int} (h : k < 0 ∨ m ≤ k) : errI k m = 2 := by unfold errI; rw [oor_out h]; rfl
theorem nod_k_out (n k : Int) (h : k < 0 ∨ 64 ≤ k) : nodT n k = nodT n 100 := by
  have h1 : errI k 32 = 2 := errI_out (by omega)
  have h2 : errI k 64 = 2 := errI_out h
  unfold nodT
  rw [h1, h2]
  rfl
theorem nod_n_out (n k : Int) (h : n < 0 ∨ 64 ≤ n) : isTrue (nodT n k) = true := by
  have h1 : errI n 32 = 2 := errI_out (by omega)
  have h2 : errI n 64 = 2 := errI_out h
  have o64 : oor n 64 = true := oor_out h
  have a : sgA n = 0 := by unfold sgA; rw [o64]; rfl
  have b : sgB n = 0 := by unfold sgB; rw [o64]; rfl
  have c1 : (bif decide (n ≥ 0) then decide (n < 32) else false) = false := by
    rcases h with h | h
    · have : decide (n ≥ 0) = false := by simp; omega
      rw [this]; rfl
    · have : decide (n < 32) = false := by simp; omega
      rw [this]; cases decide (n ≥ 0) <;> rfl
  have c2 : (bif decide (n ≥ 0) then decide (n < 64) else false) = false := by
    rcases h with h | h
    · have : decide (n ≥ 0) = false := by simp; omega
      rw [this]; rfl
    · have : decide (n < 64) = false := by simp; omega
      rw [this]; cases decide (n ≥ 0) <;> rfl
  unfold nodT
  rw [h1, h2, a, b, c1, c2]
  rfl
theorem nod_true (n k : Int) : crun (bodyS Try.prog κn Try.f5 [.int .i64 n, .int .i64 k] []) = some (.bool true, []) := by
  rw [nod_t]
  refine isTrue_crun ?_
  by_cases hn : n < 0 ∨ 64 ≤ n
  · exact nod_n_out n k hn
  · have hin := in_ok
    rw [List.all_eq_true] at hin
    obtain ⟨m, rfl⟩ : ∃ m : Nat, n = m := ⟨n.toNat, by omega⟩
    have h1 := hin m (upto_mem (by omega))
    rw [List.all_eq_true] at h1
    by_cases hk : k < 0 ∨ 64 ≤ k
    · rw [nod_k_out _ k hk]
      exact h1 100 (by simp)
    · obtain ⟨j, rfl⟩ : ∃ j : Nat, k = j := ⟨k.toNat, by omega⟩
      exact h1 j (List.mem_cons_of_mem _ (upto_mem (by omega)))
end Go.Proofs.Ytohhhodkmnpjpaa
