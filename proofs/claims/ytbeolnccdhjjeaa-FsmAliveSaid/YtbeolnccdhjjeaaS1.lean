/- Sessions: what single functions compute: the kinds of events; copies. -/
import Derived.Test.YtbeolnccdhjjeaaS0
import Derived.Test.YtbeolnccdhjjeaaAmRef
import Derived.Test.YtbeolnccdhjjeaaAmMemo
namespace Go.Proofs.Ytbeolnccdhjjeaa
open Go.Am
set_option maxRecDepth 100000
def knownB (k : Int) : Bool := k == 1 || k == 2 || k == 3 || k == 4 || k == 5 || k == 6 || k == 7
def known_s : CSumm
  | [.int .i64 k], [] => .ret (.bool (knownB k)) []
  | _, _ => .fail
def knownR (k : Int) : CTree := bif k == 3 then
        bif k == 3 then CTree.ret (SV.bool true) []
        else
          bif k == 5 then bif k == 5 then CTree.ret (SV.bool true) [] else CTree.ret (SV.bool false) []
          else bif k == 6 then CTree.ret (SV.bool true) [] else CTree.ret (SV.bool false) []
      else
        bif k == 4 then CTree.ret (SV.bool true) []
        else
          bif k == 5 then bif k == 5 then CTree.ret (SV.bool true) [] else CTree.ret (SV.bool false) []
          else bif k == 6 then CTree.ret (SV.bool true) [] else CTree.ret (SV.bool false) []
theorem known_t (k : Int) : bodyS Try.prog (tbl []) Try.f33 [.int .i64 k] [] = bif k == 1 then bif k == 1 then CTree.ret (SV.bool true) [] else knownR k
  else bif k == 2 then bif k == 2 then CTree.ret (SV.bool true) [] else knownR k else bif k == 7 then CTree.ret (SV.bool true) [] else knownR k := by kernel_rfl
theorem known_k : Known Try.prog 33 known_s := known_of_bodyS noNumTry mixTry ok0 Try.func33 rfl (by
  intro args H v ups h
  unfold known_s at h
  split at h
  · rename_i k
    rw [known_t, ← h]
    unfold knownR knownB
    cases k == 1 <;> cases k == 2 <;> cases k == 3 <;> cases k == 4 <;> cases k == 5 <;> cases k == 6 <;> cases k == 7 <;> rfl
  · cases h)

theorem bytes22 : Try.prog.types[22].bytes = 4 := by kernel_rfl
theorem bytes23 : Try.prog.types[23].bytes = 4 := by kernel_rfl
theorem bytes119 : Try.prog.types[119].bytes = 8 := by kernel_rfl
theorem bytes103 : Try.prog.types[103].bytes = 80 := by kernel_rfl
theorem grow_run {b n : Nat} {es : List SV} {v : SV} {u : List (Nat × Option Chunk)} {t : CTree} (h : bndE b es = true) (ht : t = bif decide (0 + es.length ≤ 9223372036854775807) && decide ((0 + es.length) * n ≤ 140737488355328) then .ret v u else .fail) (hb : n = b) : crun t = some (v, u) := by
  subst hb
  rw [ht]
  unfold bndE at h
  rw [Nat.zero_add, h]
  rfl
noncomputable abbrev b0 (fn : Func) : CSumm := bodyS Try.prog (tbl []) fn
theorem valid0 {f : FuncId} {fn : Func} (hf : Try.prog.funcs[f]? = some fn) : ValidC Try.prog f (b0 fn) := body_valid ok0 mixTry hf
theorem cl78_k : Known Try.prog 78 (cloneS 22 4) := known_clone (sz := 1) noNumTry mixTry Try.func78 rfl (valid0 Try.func78) (by
  have h : b0 Try.f78 [.nils] [] = .ret .nils [] := by kernel_rfl
  rw [h]; rfl) (fun es h => grow_run h (by kernel_rfl) bytes22)
theorem cl79_k : Known Try.prog 79 (cloneS 23 4) := known_clone (sz := 1) noNumTry mixTry Try.func79 rfl (valid0 Try.func79) (by
  have h : b0 Try.f79 [.nils] [] = .ret .nils [] := by kernel_rfl
  rw [h]; rfl) (fun es h => grow_run h (by kernel_rfl) bytes23)
theorem cl80_k : Known Try.prog 80 (cloneS 119 8) := known_clone (sz := 8) noNumTry mixTry Try.func80 rfl (valid0 Try.func80) (by
  have h : b0 Try.f80 [.nils] [] = .ret .nils [] := by kernel_rfl
  rw [h]; rfl) (fun es h => grow_run h (by kernel_rfl) bytes119)
theorem cl81_k : Known Try.prog 81 (cloneS 103 80) := known_clone (sz := 21) noNumTry mixTry Try.func81 rfl (valid0 Try.func81) (by
  have h : b0 Try.f81 [.nils] [] = .ret .nils [] := by kernel_rfl
  rw [h]; rfl) (fun es h => grow_run h (by kernel_rfl) bytes103)
theorem ow54_k : Known Try.prog 54 (cloneS 103 80) := known_own (sz := 21) noNumTry mixTry Try.func54 rfl (valid0 Try.func54) (fun es h => grow_run h (by kernel_rfl) bytes103)
theorem ow74_k : Known Try.prog 74 (cloneS 22 4) := known_own (sz := 1) noNumTry mixTry Try.func74 rfl (valid0 Try.func74) (fun es h => grow_run h (by kernel_rfl) bytes22)
theorem ow75_k : Known Try.prog 75 (cloneS 23 4) := known_own (sz := 1) noNumTry mixTry Try.func75 rfl (valid0 Try.func75) (fun es h => grow_run h (by kernel_rfl) bytes23)
theorem ow76_k : Known Try.prog 76 (cloneS 119 8) := known_own (sz := 8) noNumTry mixTry Try.func76 rfl (valid0 Try.func76) (fun es h => grow_run h (by kernel_rfl) bytes119)
end Go.Proofs.Ytbeolnccdhjjeaa
