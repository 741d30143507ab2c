/-
  No cell of these rows narrows 'for every input' (looked for: loops, veiled, ifaces, maps, wideKeys, modest, calm, conditions, laid).
  DERIVED. THE GIVEN ROWS OF THIS SEAT. 4 by the template 'for every input the law returns true; each argument reads behind the call as it read before'; 0 by the template 'total and deterministic' (their statements: YtnlmhpancboddaaGreatTotals.lean).
  GIVEN WITH THE SEED: the statements are not yours to turn. If you find one false, say at which input.
  Laid BY PROGRAM, IN A SANDBOX (cutbox-rows.mjs): the forced cells as the released guide's own fill.sh prints them over the translation 5c081b921616fe08… (all of the seat's roots in one cut). By AI agents, Wed Nov 11 2026. No macro, syntax, notation, axiom, sorry.
-/
import Derived.Test.YtnlmhpancboddaaGreatChecked
import GoSem.Claim
import GoSem.ClaimJoined
import GoSem.ClaimMapViews
import Derived.JoinedTies
import Derived.KernelRfl
namespace Go.Proofs.YtnlmhpancboddaaGreat
/- THE CELL 'sum', in the pinned program and in every row, IS THE sha256 OF THE DUMP (.gsa) THAT YtnlmhpancboddaaGreatProg.lean LOADS. Nothing in Lean hashes anything: it is a label: what it is worth is what the hold of that sum in a sandbox is worth. -/
noncomputable def Tryz.pinned : Pinned := { name := "ytnlmhpancboddaagreat", sum := "5c081b921616fe0891dcd95c63b860c944b8cf8fe6c0079ae03ecb62c42f1ccd", checked := Tryz.checked }
namespace Rows
def none {H : Type} : Left H := { results := [], args := [] }

/-- 'leafmeshlaw06.MsgSplit': WHATEVER THE INPUT: true; the input reads as it did. -/
def msgSplitSpec : ChangeSpec := { name := "msgSplit", fn := fun _ => fun
  | [d] => { results := [.lit (.bool true)], args := [d] }
  | _ => none }
def msgSplitRow : OpenClaim := { program := "ytnlmhpancboddaagreat", sum := "5c081b921616fe0891dcd95c63b860c944b8cf8fe6c0079ae03ecb62c42f1ccd", func := "leafmesh/leafmeshlaw06.MsgSplit", spec := "msgSplit", inPlace := ["internal/bytealg.MakeNoZero"], unfollowed := true, recurses := true, apart := false }
def MsgSplitSaid : Prop := msgSplitRow.holds Tryz.pinned (OpenSpec.ofChange msgSplitSpec)

/-- ITS FALSE NEIGHBOUR: 'it returns false'. Refute it at one input. -/
def msgSplitWrong : ChangeSpec := { name := "msgSplit", fn := fun _ => fun
  | [d] => { results := [.lit (.bool false)], args := [d] }
  | _ => none }
def MsgSplitWrongFalsely : Prop := msgSplitRow.holds Tryz.pinned (OpenSpec.ofChange msgSplitWrong)

/-- 'leafmeshlaw06.MsgPieces': WHATEVER THE INPUT: true; the input reads as it did. -/
def msgPiecesSpec : ChangeSpec := { name := "msgPieces", fn := fun _ => fun
  | [d1, d2] => { results := [.lit (.bool true)], args := [d1, d2] }
  | _ => none }
def msgPiecesRow : OpenClaim := { program := "ytnlmhpancboddaagreat", sum := "5c081b921616fe0891dcd95c63b860c944b8cf8fe6c0079ae03ecb62c42f1ccd", func := "leafmesh/leafmeshlaw06.MsgPieces", spec := "msgPieces", inPlace := ["internal/bytealg.MakeNoZero"], unfollowed := true, recurses := true, apart := false }
def MsgPiecesSaid : Prop := msgPiecesRow.holds Tryz.pinned (OpenSpec.ofChange msgPiecesSpec)

/-- ITS FALSE NEIGHBOUR: 'it returns false'. Refute it at one input. -/
def msgPiecesWrong : ChangeSpec := { name := "msgPieces", fn := fun _ => fun
  | [d1, d2] => { results := [.lit (.bool false)], args := [d1, d2] }
  | _ => none }
def MsgPiecesWrongFalsely : Prop := msgPiecesRow.holds Tryz.pinned (OpenSpec.ofChange msgPiecesWrong)

/-- 'leafmeshlaw06.MsgOpens': WHATEVER THE INPUT: true; the input reads as it did. -/
def msgOpensSpec : ChangeSpec := { name := "msgOpens", fn := fun _ => fun
  | [d1, d2, d3, d4] => { results := [.lit (.bool true)], args := [d1, d2, d3, d4] }
  | _ => none }
def msgOpensRow : OpenClaim := { program := "ytnlmhpancboddaagreat", sum := "5c081b921616fe0891dcd95c63b860c944b8cf8fe6c0079ae03ecb62c42f1ccd", func := "leafmesh/leafmeshlaw06.MsgOpens", spec := "msgOpens", inPlace := ["internal/bytealg.MakeNoZero"], unfollowed := true, recurses := true, apart := false }
def MsgOpensSaid : Prop := msgOpensRow.holds Tryz.pinned (OpenSpec.ofChange msgOpensSpec)

/-- ITS FALSE NEIGHBOUR: 'it returns false'. Refute it at one input. -/
def msgOpensWrong : ChangeSpec := { name := "msgOpens", fn := fun _ => fun
  | [d1, d2, d3, d4] => { results := [.lit (.bool false)], args := [d1, d2, d3, d4] }
  | _ => none }
def MsgOpensWrongFalsely : Prop := msgOpensRow.holds Tryz.pinned (OpenSpec.ofChange msgOpensWrong)

/-- 'leafmeshlaw06.MsgBack': WHATEVER THE INPUT: true; the input reads as it did. -/
def msgBackSpec : ChangeSpec := { name := "msgBack", fn := fun _ => fun
  | [d1, d2, d3] => { results := [.lit (.bool true)], args := [d1, d2, d3] }
  | _ => none }
def msgBackRow : OpenClaim := { program := "ytnlmhpancboddaagreat", sum := "5c081b921616fe0891dcd95c63b860c944b8cf8fe6c0079ae03ecb62c42f1ccd", func := "leafmesh/leafmeshlaw06.MsgBack", spec := "msgBack", inPlace := ["internal/bytealg.MakeNoZero"], unfollowed := true, recurses := true, apart := false }
def MsgBackSaid : Prop := msgBackRow.holds Tryz.pinned (OpenSpec.ofChange msgBackSpec)

/-- ITS FALSE NEIGHBOUR: 'it returns false'. Refute it at one input. -/
def msgBackWrong : ChangeSpec := { name := "msgBack", fn := fun _ => fun
  | [d1, d2, d3] => { results := [.lit (.bool false)], args := [d1, d2, d3] }
  | _ => none }
def MsgBackWrongFalsely : Prop := msgBackRow.holds Tryz.pinned (OpenSpec.ofChange msgBackWrong)

/- THE SECOND FORM. 'bulk': how many values and letters a reading holds, each counted each time it is reached (what is shared counts as often as it is met; a slice's spare places count too). A statement '..UptoSaid' is the law's where the arguments, and the package variables that the reading takes, are together of bulk at most 1048576: NARROWER than '..Said'. Prove '..Said' where nothing that the law and all that it calls make is longer than what came in: it says more and counts as full. Else prove '..UptoSaid'. A law counts once. -/
mutual
def uptoBulk {H : Type} : DataW H → Nat
  | .lit (.string bytes) => bytes.length + 1
  | .lit _ => 1
  | .nil => 1
  | .ptr d => uptoBulk d + 1
  | .slice elems spare => uptoBulkAll elems + uptoBulkAll spare + 1
  | .agg parts => uptoBulkAll parts + 1
  | .iface _ d => uptoBulk d + 1
  | .map entries => uptoBulkEntries entries + 1
  | .held _ => 1
def uptoBulkAll {H : Type} : List (DataW H) → Nat
  | [] => 0
  | d :: r => uptoBulk d + uptoBulkAll r
def uptoBulkEntries {H : Type} : List (Lit × DataW H) → Nat
  | [] => 0
  | x :: r => uptoBulkEntry x + uptoBulkEntries r
def uptoBulkEntry {H : Type} : Lit × DataW H → Nat
  | (.string bytes, d) => bytes.length + uptoBulk d + 1
  | (_, d) => uptoBulk d + 1
 end
def uptoSmall : (H : Type) → List (DataW H) → Bool := fun _ ds => decide (uptoBulkAll ds ≤ 1048576)
def OpenSpec.upto (s : _root_.Go.ChangeSpec) : _root_.Go.OpenSpec := { _root_.Go.OpenSpec.ofChange s with cond := some uptoSmall }

/-- 'leafmeshlaw06.MsgSplit', WHERE WHAT IT READS IS OF BULK AT MOST 1048576: true; the input reads as it did. -/
def msgSplitUptoRow : OpenClaim := { program := "ytnlmhpancboddaagreat", sum := "5c081b921616fe0891dcd95c63b860c944b8cf8fe6c0079ae03ecb62c42f1ccd", func := "leafmesh/leafmeshlaw06.MsgSplit", spec := "msgSplit", inPlace := ["internal/bytealg.MakeNoZero"], unfollowed := true, recurses := true, apart := false, narrowed := true }
def MsgSplitUptoSaid : Prop := msgSplitUptoRow.holds Tryz.pinned (OpenSpec.upto msgSplitSpec)

/-- 'leafmeshlaw06.MsgPieces', WHERE WHAT IT READS IS OF BULK AT MOST 1048576: true; the input reads as it did. -/
def msgPiecesUptoRow : OpenClaim := { program := "ytnlmhpancboddaagreat", sum := "5c081b921616fe0891dcd95c63b860c944b8cf8fe6c0079ae03ecb62c42f1ccd", func := "leafmesh/leafmeshlaw06.MsgPieces", spec := "msgPieces", inPlace := ["internal/bytealg.MakeNoZero"], unfollowed := true, recurses := true, apart := false, narrowed := true }
def MsgPiecesUptoSaid : Prop := msgPiecesUptoRow.holds Tryz.pinned (OpenSpec.upto msgPiecesSpec)

/-- 'leafmeshlaw06.MsgOpens', WHERE WHAT IT READS IS OF BULK AT MOST 1048576: true; the input reads as it did. -/
def msgOpensUptoRow : OpenClaim := { program := "ytnlmhpancboddaagreat", sum := "5c081b921616fe0891dcd95c63b860c944b8cf8fe6c0079ae03ecb62c42f1ccd", func := "leafmesh/leafmeshlaw06.MsgOpens", spec := "msgOpens", inPlace := ["internal/bytealg.MakeNoZero"], unfollowed := true, recurses := true, apart := false, narrowed := true }
def MsgOpensUptoSaid : Prop := msgOpensUptoRow.holds Tryz.pinned (OpenSpec.upto msgOpensSpec)

/-- 'leafmeshlaw06.MsgBack', WHERE WHAT IT READS IS OF BULK AT MOST 1048576: true; the input reads as it did. -/
def msgBackUptoRow : OpenClaim := { program := "ytnlmhpancboddaagreat", sum := "5c081b921616fe0891dcd95c63b860c944b8cf8fe6c0079ae03ecb62c42f1ccd", func := "leafmesh/leafmeshlaw06.MsgBack", spec := "msgBack", inPlace := ["internal/bytealg.MakeNoZero"], unfollowed := true, recurses := true, apart := false, narrowed := true }
def MsgBackUptoSaid : Prop := msgBackUptoRow.holds Tryz.pinned (OpenSpec.upto msgBackSpec)

end Rows
end Go.Proofs.YtnlmhpancboddaaGreat
