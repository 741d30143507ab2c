/-
  No cell of these rows narrows 'for every input' (looked for: loops, veiled, ifaces, maps, wideKeys, modest, calm, conditions, laid).
  DERIVED. THE GIVEN ROWS OF THIS SEAT. 4 by the template 'for every input the law returns true; each argument reads behind the call as it read before'; 0 by the template 'total and deterministic' (their statements: YtohhhodkmnpjpaaTotals.lean).
  GIVEN WITH THE SEED: the statements are not yours to turn. If you find one false, say at which input.
  Laid BY PROGRAM, IN A SANDBOX (cutbox-rows.mjs): the forced cells as the released guide's own fill.sh prints them over the translation 124e817ff5d80b24… (all of the seat's roots in one cut). By AI agents, Wed Nov 11 2026. No macro, syntax, notation, axiom, sorry.
-/
import Derived.Test.YtohhhodkmnpjpaaChecked
import GoSem.Claim
import GoSem.ClaimJoined
import GoSem.ClaimMapViews
import Derived.JoinedTies
import Derived.KernelRfl
namespace Go.Proofs.Ytohhhodkmnpjpaa
/- THE CELL 'sum', in the pinned program and in every row, IS THE sha256 OF THE DUMP (.gsa) THAT YtohhhodkmnpjpaaProg.lean LOADS. Nothing in Lean hashes anything: it is a label: what it is worth is what the hold of that sum in a sandbox is worth. -/
noncomputable def Try.pinned : Pinned := { name := "ytohhhodkmnpjpaa", sum := "124e817ff5d80b2421325550e5bd20f856c44071740e7c313a30a1c8e8c06f5f", checked := Try.checked }
namespace Rows
def none {H : Type} : Left H := { results := [], args := [] }

/-- 'leafmeshlaw01.AddrCovers': WHATEVER THE INPUT: true; the input reads as it did. -/
def addrCoversSpec : ChangeSpec := { name := "addrCovers", fn := fun _ => fun
  | [d1, d2, d3, d4] => { results := [.lit (.bool true)], args := [d1, d2, d3, d4] }
  | _ => none }
def addrCoversRow : OpenClaim := { program := "ytohhhodkmnpjpaa", sum := "124e817ff5d80b2421325550e5bd20f856c44071740e7c313a30a1c8e8c06f5f", func := "leafmesh/leafmeshlaw01.AddrCovers", spec := "addrCovers", apart := false }
def AddrCoversSaid : Prop := addrCoversRow.holds Try.pinned (OpenSpec.ofChange addrCoversSpec)

/-- ITS FALSE NEIGHBOUR: 'it returns false'. Refute it at one input. -/
def addrCoversWrong : ChangeSpec := { name := "addrCovers", fn := fun _ => fun
  | [d1, d2, d3, d4] => { results := [.lit (.bool false)], args := [d1, d2, d3, d4] }
  | _ => none }
def AddrCoversWrongFalsely : Prop := addrCoversRow.holds Try.pinned (OpenSpec.ofChange addrCoversWrong)

/-- 'leafmeshlaw01.AddrOrders': WHATEVER THE INPUT: true; the input reads as it did. -/
def addrOrdersSpec : ChangeSpec := { name := "addrOrders", fn := fun _ => fun
  | [d1, d2, d3, d4, d5, d6] => { results := [.lit (.bool true)], args := [d1, d2, d3, d4, d5, d6] }
  | _ => none }
def addrOrdersRow : OpenClaim := { program := "ytohhhodkmnpjpaa", sum := "124e817ff5d80b2421325550e5bd20f856c44071740e7c313a30a1c8e8c06f5f", func := "leafmesh/leafmeshlaw01.AddrOrders", spec := "addrOrders", unfollowed := true, recurses := true, apart := false }
def AddrOrdersSaid : Prop := addrOrdersRow.holds Try.pinned (OpenSpec.ofChange addrOrdersSpec)

/-- ITS FALSE NEIGHBOUR: 'it returns false'. Refute it at one input. -/
def addrOrdersWrong : ChangeSpec := { name := "addrOrders", fn := fun _ => fun
  | [d1, d2, d3, d4, d5, d6] => { results := [.lit (.bool false)], args := [d1, d2, d3, d4, d5, d6] }
  | _ => none }
def AddrOrdersWrongFalsely : Prop := addrOrdersRow.holds Try.pinned (OpenSpec.ofChange addrOrdersWrong)

/-- 'leafmeshlaw01.AddrNodes': WHATEVER THE INPUT: true; the input reads as it did. -/
def addrNodesSpec : ChangeSpec := { name := "addrNodes", fn := fun _ => fun
  | [d1, d2] => { results := [.lit (.bool true)], args := [d1, d2] }
  | _ => none }
def addrNodesRow : OpenClaim := { program := "ytohhhodkmnpjpaa", sum := "124e817ff5d80b2421325550e5bd20f856c44071740e7c313a30a1c8e8c06f5f", func := "leafmesh/leafmeshlaw01.AddrNodes", spec := "addrNodes", unfollowed := true, recurses := true, apart := false }
def AddrNodesSaid : Prop := addrNodesRow.holds Try.pinned (OpenSpec.ofChange addrNodesSpec)

/-- ITS FALSE NEIGHBOUR: 'it returns false'. Refute it at one input. -/
def addrNodesWrong : ChangeSpec := { name := "addrNodes", fn := fun _ => fun
  | [d1, d2] => { results := [.lit (.bool false)], args := [d1, d2] }
  | _ => none }
def AddrNodesWrongFalsely : Prop := addrNodesRow.holds Try.pinned (OpenSpec.ofChange addrNodesWrong)

/-- 'leafmeshlaw01.AddrNames': WHATEVER THE INPUT: true; the input reads as it did. -/
def addrNamesSpec : ChangeSpec := { name := "addrNames", fn := fun _ => fun
  | [] => { results := [.lit (.bool true)], args := [] }
  | _ => none }
def addrNamesRow : OpenClaim := { program := "ytohhhodkmnpjpaa", sum := "124e817ff5d80b2421325550e5bd20f856c44071740e7c313a30a1c8e8c06f5f", func := "leafmesh/leafmeshlaw01.AddrNames", spec := "addrNames", inPlace := ["internal/bytealg.IndexByteString", "internal/bytealg.IndexString", "internal/abi.NoEscape"], unfollowed := true, recurses := true, named := ["internal/bytealg.MaxLen"], apart := false }
def AddrNamesSaid : Prop := addrNamesRow.holds Try.pinned (OpenSpec.ofChange addrNamesSpec)

/-- ITS FALSE NEIGHBOUR: 'it returns false'. Refute it at one input. -/
def addrNamesWrong : ChangeSpec := { name := "addrNames", fn := fun _ => fun
  | [] => { results := [.lit (.bool false)], args := [] }
  | _ => none }
def AddrNamesWrongFalsely : Prop := addrNamesRow.holds Try.pinned (OpenSpec.ofChange addrNamesWrong)

/- THE SECOND FORM. 'bulk': how many values and letters a reading holds, each counted each time it is reached (what is shared counts as often as it is met; a slice's spare places count too). A statement '..UptoSaid' is the law's where the arguments, and the package variables that the reading takes, are together of bulk at most 1048576: NARROWER than '..Said'. Prove '..Said' where nothing that the law and all that it calls make is longer than what came in: it says more and counts as full. Else prove '..UptoSaid'. A law counts once. -/
mutual
def uptoBulk {H : Type} : DataW H → Nat
  | .lit (.string bytes) => bytes.length + 1
  | .lit _ => 1
  | .nil => 1
  | .ptr d => uptoBulk d + 1
  | .slice elems spare => uptoBulkAll elems + uptoBulkAll spare + 1
  | .agg parts => uptoBulkAll parts + 1
  | .iface _ d => uptoBulk d + 1
  | .map entries => uptoBulkEntries entries + 1
  | .held _ => 1
def uptoBulkAll {H : Type} : List (DataW H) → Nat
  | [] => 0
  | d :: r => uptoBulk d + uptoBulkAll r
def uptoBulkEntries {H : Type} : List (Lit × DataW H) → Nat
  | [] => 0
  | x :: r => uptoBulkEntry x + uptoBulkEntries r
def uptoBulkEntry {H : Type} : Lit × DataW H → Nat
  | (.string bytes, d) => bytes.length + uptoBulk d + 1
  | (_, d) => uptoBulk d + 1
 end
def uptoSmall : (H : Type) → List (DataW H) → Bool := fun _ ds => decide (uptoBulkAll ds ≤ 1048576)
def OpenSpec.upto (s : _root_.Go.ChangeSpec) : _root_.Go.OpenSpec := { _root_.Go.OpenSpec.ofChange s with cond := some uptoSmall }

/-- 'leafmeshlaw01.AddrCovers', WHERE WHAT IT READS IS OF BULK AT MOST 1048576: true; the input reads as it did. -/
def addrCoversUptoRow : OpenClaim := { program := "ytohhhodkmnpjpaa", sum := "124e817ff5d80b2421325550e5bd20f856c44071740e7c313a30a1c8e8c06f5f", func := "leafmesh/leafmeshlaw01.AddrCovers", spec := "addrCovers", apart := false, narrowed := true }
def AddrCoversUptoSaid : Prop := addrCoversUptoRow.holds Try.pinned (OpenSpec.upto addrCoversSpec)

/-- 'leafmeshlaw01.AddrOrders', WHERE WHAT IT READS IS OF BULK AT MOST 1048576: true; the input reads as it did. -/
def addrOrdersUptoRow : OpenClaim := { program := "ytohhhodkmnpjpaa", sum := "124e817ff5d80b2421325550e5bd20f856c44071740e7c313a30a1c8e8c06f5f", func := "leafmesh/leafmeshlaw01.AddrOrders", spec := "addrOrders", unfollowed := true, recurses := true, apart := false, narrowed := true }
def AddrOrdersUptoSaid : Prop := addrOrdersUptoRow.holds Try.pinned (OpenSpec.upto addrOrdersSpec)

/-- 'leafmeshlaw01.AddrNodes', WHERE WHAT IT READS IS OF BULK AT MOST 1048576: true; the input reads as it did. -/
def addrNodesUptoRow : OpenClaim := { program := "ytohhhodkmnpjpaa", sum := "124e817ff5d80b2421325550e5bd20f856c44071740e7c313a30a1c8e8c06f5f", func := "leafmesh/leafmeshlaw01.AddrNodes", spec := "addrNodes", unfollowed := true, recurses := true, apart := false, narrowed := true }
def AddrNodesUptoSaid : Prop := addrNodesUptoRow.holds Try.pinned (OpenSpec.upto addrNodesSpec)

/-- 'leafmeshlaw01.AddrNames', WHERE WHAT IT READS IS OF BULK AT MOST 1048576: true; the input reads as it did. -/
def addrNamesUptoRow : OpenClaim := { program := "ytohhhodkmnpjpaa", sum := "124e817ff5d80b2421325550e5bd20f856c44071740e7c313a30a1c8e8c06f5f", func := "leafmesh/leafmeshlaw01.AddrNames", spec := "addrNames", inPlace := ["internal/bytealg.IndexByteString", "internal/bytealg.IndexString", "internal/abi.NoEscape"], unfollowed := true, recurses := true, named := ["internal/bytealg.MaxLen"], apart := false, narrowed := true }
def AddrNamesUptoSaid : Prop := addrNamesUptoRow.holds Try.pinned (OpenSpec.upto addrNamesSpec)

end Rows
end Go.Proofs.Ytohhhodkmnpjpaa
