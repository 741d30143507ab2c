/-
  No cell of these rows narrows 'for every input' (looked for: loops, veiled, ifaces, maps, wideKeys, modest, calm, conditions, laid).
  DERIVED. THE GIVEN ROWS OF THIS SEAT. 6 by the template 'for every input the law returns true; each argument reads behind the call as it read before'; 0 by the template 'total and deterministic' (their statements: YtbeolnccdhjjeaaTotals.lean).
  GIVEN WITH THE SEED: the statements are not yours to turn. If you find one false, say at which input.
  Laid BY PROGRAM, IN A SANDBOX (cutbox-rows.mjs): the forced cells as the released guide's own fill.sh prints them over the translation e7f99120f8ab1994… (all of the seat's roots in one cut). By AI agents, Wed Nov 11 2026. No macro, syntax, notation, axiom, sorry.
-/
import Derived.Test.YtbeolnccdhjjeaaChecked
import GoSem.Claim
import GoSem.ClaimJoined
import GoSem.ClaimMapViews
import Derived.JoinedTies
import Derived.KernelRfl
namespace Go.Proofs.Ytbeolnccdhjjeaa
/- THE CELL 'sum', in the pinned program and in every row, IS THE sha256 OF THE DUMP (.gsa) THAT YtbeolnccdhjjeaaProg.lean LOADS. Nothing in Lean hashes anything: it is a label: what it is worth is what the hold of that sum in a sandbox is worth. -/
noncomputable def Try.pinned : Pinned := { name := "ytbeolnccdhjjeaa", sum := "e7f99120f8ab1994cc34fd40722066889e600bf98e927392ca75e96c7261057b", checked := Try.checked }
namespace Rows
def none {H : Type} : Left H := { results := [], args := [] }

/-- 'leafmeshlaw16.FsmCalls': WHATEVER THE INPUT: true; the input reads as it did. -/
def fsmCallsSpec : ChangeSpec := { name := "fsmCalls", fn := fun _ => fun
  | [d1, d2, d3, d4] => { results := [.lit (.bool true)], args := [d1, d2, d3, d4] }
  | _ => none }
def fsmCallsRow : OpenClaim := { program := "ytbeolnccdhjjeaa", sum := "e7f99120f8ab1994cc34fd40722066889e600bf98e927392ca75e96c7261057b", func := "leafmesh/leafmeshlaw16.FsmCalls", spec := "fsmCalls", unfollowed := true, recurses := true, apart := false }
def FsmCallsSaid : Prop := fsmCallsRow.holds Try.pinned (OpenSpec.ofChange fsmCallsSpec)

/-- ITS FALSE NEIGHBOUR: 'it returns false'. Refute it at one input. -/
def fsmCallsWrong : ChangeSpec := { name := "fsmCalls", fn := fun _ => fun
  | [d1, d2, d3, d4] => { results := [.lit (.bool false)], args := [d1, d2, d3, d4] }
  | _ => none }
def FsmCallsWrongFalsely : Prop := fsmCallsRow.holds Try.pinned (OpenSpec.ofChange fsmCallsWrong)

/-- 'leafmeshlaw16.FsmSafe': WHATEVER THE INPUT: true; the input reads as it did. -/
def fsmSafeSpec : ChangeSpec := { name := "fsmSafe", fn := fun _ => fun
  | [d1, d2, d3] => { results := [.lit (.bool true)], args := [d1, d2, d3] }
  | _ => none }
def fsmSafeRow : OpenClaim := { program := "ytbeolnccdhjjeaa", sum := "e7f99120f8ab1994cc34fd40722066889e600bf98e927392ca75e96c7261057b", func := "leafmesh/leafmeshlaw16.FsmSafe", spec := "fsmSafe", unfollowed := true, recurses := true, apart := false }
def FsmSafeSaid : Prop := fsmSafeRow.holds Try.pinned (OpenSpec.ofChange fsmSafeSpec)

/-- ITS FALSE NEIGHBOUR: 'it returns false'. Refute it at one input. -/
def fsmSafeWrong : ChangeSpec := { name := "fsmSafe", fn := fun _ => fun
  | [d1, d2, d3] => { results := [.lit (.bool false)], args := [d1, d2, d3] }
  | _ => none }
def FsmSafeWrongFalsely : Prop := fsmSafeRow.holds Try.pinned (OpenSpec.ofChange fsmSafeWrong)

/-- 'leafmeshlaw16.FsmPair': WHATEVER THE INPUT: true; the input reads as it did. -/
def fsmPairSpec : ChangeSpec := { name := "fsmPair", fn := fun _ => fun
  | [d1, d2, d3, d4, d5, d6, d7] => { results := [.lit (.bool true)], args := [d1, d2, d3, d4, d5, d6, d7] }
  | _ => none }
def fsmPairRow : OpenClaim := { program := "ytbeolnccdhjjeaa", sum := "e7f99120f8ab1994cc34fd40722066889e600bf98e927392ca75e96c7261057b", func := "leafmesh/leafmeshlaw16.FsmPair", spec := "fsmPair", unfollowed := true, recurses := true, apart := false }
def FsmPairSaid : Prop := fsmPairRow.holds Try.pinned (OpenSpec.ofChange fsmPairSpec)

/-- ITS FALSE NEIGHBOUR: 'it returns false'. Refute it at one input. -/
def fsmPairWrong : ChangeSpec := { name := "fsmPair", fn := fun _ => fun
  | [d1, d2, d3, d4, d5, d6, d7] => { results := [.lit (.bool false)], args := [d1, d2, d3, d4, d5, d6, d7] }
  | _ => none }
def FsmPairWrongFalsely : Prop := fsmPairRow.holds Try.pinned (OpenSpec.ofChange fsmPairWrong)

/-- 'leafmeshlaw16.FsmHold': WHATEVER THE INPUT: true; the input reads as it did. -/
def fsmHoldSpec : ChangeSpec := { name := "fsmHold", fn := fun _ => fun
  | [d1, d2] => { results := [.lit (.bool true)], args := [d1, d2] }
  | _ => none }
def fsmHoldRow : OpenClaim := { program := "ytbeolnccdhjjeaa", sum := "e7f99120f8ab1994cc34fd40722066889e600bf98e927392ca75e96c7261057b", func := "leafmesh/leafmeshlaw16.FsmHold", spec := "fsmHold", unfollowed := true, recurses := true, apart := false }
def FsmHoldSaid : Prop := fsmHoldRow.holds Try.pinned (OpenSpec.ofChange fsmHoldSpec)

/-- ITS FALSE NEIGHBOUR: 'it returns false'. Refute it at one input. -/
def fsmHoldWrong : ChangeSpec := { name := "fsmHold", fn := fun _ => fun
  | [d1, d2] => { results := [.lit (.bool false)], args := [d1, d2] }
  | _ => none }
def FsmHoldWrongFalsely : Prop := fsmHoldRow.holds Try.pinned (OpenSpec.ofChange fsmHoldWrong)

/-- 'leafmeshlaw16.FsmAlive': WHATEVER THE INPUT: true; the input reads as it did. -/
def fsmAliveSpec : ChangeSpec := { name := "fsmAlive", fn := fun _ => fun
  | [d1, d2] => { results := [.lit (.bool true)], args := [d1, d2] }
  | _ => none }
def fsmAliveRow : OpenClaim := { program := "ytbeolnccdhjjeaa", sum := "e7f99120f8ab1994cc34fd40722066889e600bf98e927392ca75e96c7261057b", func := "leafmesh/leafmeshlaw16.FsmAlive", spec := "fsmAlive", unfollowed := true, recurses := true, apart := false }
def FsmAliveSaid : Prop := fsmAliveRow.holds Try.pinned (OpenSpec.ofChange fsmAliveSpec)

/-- ITS FALSE NEIGHBOUR: 'it returns false'. Refute it at one input. -/
def fsmAliveWrong : ChangeSpec := { name := "fsmAlive", fn := fun _ => fun
  | [d1, d2] => { results := [.lit (.bool false)], args := [d1, d2] }
  | _ => none }
def FsmAliveWrongFalsely : Prop := fsmAliveRow.holds Try.pinned (OpenSpec.ofChange fsmAliveWrong)

/-- 'leafmeshlaw16.FsmInvalid': WHATEVER THE INPUT: true; the input reads as it did. -/
def fsmInvalidSpec : ChangeSpec := { name := "fsmInvalid", fn := fun _ => fun
  | [d1, d2, d3] => { results := [.lit (.bool true)], args := [d1, d2, d3] }
  | _ => none }
def fsmInvalidRow : OpenClaim := { program := "ytbeolnccdhjjeaa", sum := "e7f99120f8ab1994cc34fd40722066889e600bf98e927392ca75e96c7261057b", func := "leafmesh/leafmeshlaw16.FsmInvalid", spec := "fsmInvalid", unfollowed := true, recurses := true, apart := false }
def FsmInvalidSaid : Prop := fsmInvalidRow.holds Try.pinned (OpenSpec.ofChange fsmInvalidSpec)

/-- ITS FALSE NEIGHBOUR: 'it returns false'. Refute it at one input. -/
def fsmInvalidWrong : ChangeSpec := { name := "fsmInvalid", fn := fun _ => fun
  | [d1, d2, d3] => { results := [.lit (.bool false)], args := [d1, d2, d3] }
  | _ => none }
def FsmInvalidWrongFalsely : Prop := fsmInvalidRow.holds Try.pinned (OpenSpec.ofChange fsmInvalidWrong)

/- THE SECOND FORM. 'bulk': how many values and letters a reading holds, each counted each time it is reached (what is shared counts as often as it is met; a slice's spare places count too). A statement '..UptoSaid' is the law's where the arguments, and the package variables that the reading takes, are together of bulk at most 1048576: NARROWER than '..Said'. Prove '..Said' where nothing that the law and all that it calls make is longer than what came in: it says more and counts as full. Else prove '..UptoSaid'. A law counts once. -/
mutual
def uptoBulk {H : Type} : DataW H → Nat
  | .lit (.string bytes) => bytes.length + 1
  | .lit _ => 1
  | .nil => 1
  | .ptr d => uptoBulk d + 1
  | .slice elems spare => uptoBulkAll elems + uptoBulkAll spare + 1
  | .agg parts => uptoBulkAll parts + 1
  | .iface _ d => uptoBulk d + 1
  | .map entries => uptoBulkEntries entries + 1
  | .held _ => 1
def uptoBulkAll {H : Type} : List (DataW H) → Nat
  | [] => 0
  | d :: r => uptoBulk d + uptoBulkAll r
def uptoBulkEntries {H : Type} : List (Lit × DataW H) → Nat
  | [] => 0
  | x :: r => uptoBulkEntry x + uptoBulkEntries r
def uptoBulkEntry {H : Type} : Lit × DataW H → Nat
  | (.string bytes, d) => bytes.length + uptoBulk d + 1
  | (_, d) => uptoBulk d + 1
 end
def uptoSmall : (H : Type) → List (DataW H) → Bool := fun _ ds => decide (uptoBulkAll ds ≤ 1048576)
def OpenSpec.upto (s : _root_.Go.ChangeSpec) : _root_.Go.OpenSpec := { _root_.Go.OpenSpec.ofChange s with cond := some uptoSmall }

/-- 'leafmeshlaw16.FsmCalls', WHERE WHAT IT READS IS OF BULK AT MOST 1048576: true; the input reads as it did. -/
def fsmCallsUptoRow : OpenClaim := { program := "ytbeolnccdhjjeaa", sum := "e7f99120f8ab1994cc34fd40722066889e600bf98e927392ca75e96c7261057b", func := "leafmesh/leafmeshlaw16.FsmCalls", spec := "fsmCalls", unfollowed := true, recurses := true, apart := false, narrowed := true }
def FsmCallsUptoSaid : Prop := fsmCallsUptoRow.holds Try.pinned (OpenSpec.upto fsmCallsSpec)

/-- 'leafmeshlaw16.FsmSafe', WHERE WHAT IT READS IS OF BULK AT MOST 1048576: true; the input reads as it did. -/
def fsmSafeUptoRow : OpenClaim := { program := "ytbeolnccdhjjeaa", sum := "e7f99120f8ab1994cc34fd40722066889e600bf98e927392ca75e96c7261057b", func := "leafmesh/leafmeshlaw16.FsmSafe", spec := "fsmSafe", unfollowed := true, recurses := true, apart := false, narrowed := true }
def FsmSafeUptoSaid : Prop := fsmSafeUptoRow.holds Try.pinned (OpenSpec.upto fsmSafeSpec)

/-- 'leafmeshlaw16.FsmPair', WHERE WHAT IT READS IS OF BULK AT MOST 1048576: true; the input reads as it did. -/
def fsmPairUptoRow : OpenClaim := { program := "ytbeolnccdhjjeaa", sum := "e7f99120f8ab1994cc34fd40722066889e600bf98e927392ca75e96c7261057b", func := "leafmesh/leafmeshlaw16.FsmPair", spec := "fsmPair", unfollowed := true, recurses := true, apart := false, narrowed := true }
def FsmPairUptoSaid : Prop := fsmPairUptoRow.holds Try.pinned (OpenSpec.upto fsmPairSpec)

/-- 'leafmeshlaw16.FsmHold', WHERE WHAT IT READS IS OF BULK AT MOST 1048576: true; the input reads as it did. -/
def fsmHoldUptoRow : OpenClaim := { program := "ytbeolnccdhjjeaa", sum := "e7f99120f8ab1994cc34fd40722066889e600bf98e927392ca75e96c7261057b", func := "leafmesh/leafmeshlaw16.FsmHold", spec := "fsmHold", unfollowed := true, recurses := true, apart := false, narrowed := true }
def FsmHoldUptoSaid : Prop := fsmHoldUptoRow.holds Try.pinned (OpenSpec.upto fsmHoldSpec)

/-- 'leafmeshlaw16.FsmAlive', WHERE WHAT IT READS IS OF BULK AT MOST 1048576: true; the input reads as it did. -/
def fsmAliveUptoRow : OpenClaim := { program := "ytbeolnccdhjjeaa", sum := "e7f99120f8ab1994cc34fd40722066889e600bf98e927392ca75e96c7261057b", func := "leafmesh/leafmeshlaw16.FsmAlive", spec := "fsmAlive", unfollowed := true, recurses := true, apart := false, narrowed := true }
def FsmAliveUptoSaid : Prop := fsmAliveUptoRow.holds Try.pinned (OpenSpec.upto fsmAliveSpec)

/-- 'leafmeshlaw16.FsmInvalid', WHERE WHAT IT READS IS OF BULK AT MOST 1048576: true; the input reads as it did. -/
def fsmInvalidUptoRow : OpenClaim := { program := "ytbeolnccdhjjeaa", sum := "e7f99120f8ab1994cc34fd40722066889e600bf98e927392ca75e96c7261057b", func := "leafmesh/leafmeshlaw16.FsmInvalid", spec := "fsmInvalid", unfollowed := true, recurses := true, apart := false, narrowed := true }
def FsmInvalidUptoSaid : Prop := fsmInvalidUptoRow.holds Try.pinned (OpenSpec.upto fsmInvalidSpec)

end Rows
end Go.Proofs.Ytbeolnccdhjjeaa
