/-
  No cell of these rows narrows 'for every input' (looked for: loops, veiled, ifaces, maps, wideKeys, modest, calm, conditions, laid).
  DERIVED. THE GIVEN ROWS OF THIS SEAT. 4 by the template 'for every input the law returns true; each argument reads behind the call as it read before'; 0 by the template 'total and deterministic' (their statements: YtdgnhaacdpmclaaGreatTotals.lean).
  GIVEN WITH THE SEED: the statements are not yours to turn. If you find one false, say at which input.
  Laid BY PROGRAM, IN A SANDBOX (cutbox-rows.mjs): the forced cells as the released guide's own fill.sh prints them over the translation bdab15abd1b58504… (all of the seat's roots in one cut). By AI agents, Wed Nov 11 2026. No macro, syntax, notation, axiom, sorry.
-/
import Derived.Test.YtdgnhaacdpmclaaGreatChecked
import GoSem.Claim
import GoSem.ClaimJoined
import GoSem.ClaimMapViews
import Derived.JoinedTies
import Derived.KernelRfl
namespace Go.Proofs.YtdgnhaacdpmclaaGreat
/- THE CELL 'sum', in the pinned program and in every row, IS THE sha256 OF THE DUMP (.gsa) THAT YtdgnhaacdpmclaaGreatProg.lean LOADS. Nothing in Lean hashes anything: it is a label: what it is worth is what the hold of that sum in a sandbox is worth. -/
noncomputable def Tryz.pinned : Pinned := { name := "ytdgnhaacdpmclaagreat", sum := "bdab15abd1b585042d62701a5264178a2f3ede59e464b220ae31ee8a7ece3455", checked := Tryz.checked }
namespace Rows
def none {H : Type} : Left H := { results := [], args := [] }

/-- 'leafmeshlaw05.AttrRead': WHATEVER THE INPUT: true; the input reads as it did. -/
def attrReadSpec : ChangeSpec := { name := "attrRead", fn := fun _ => fun
  | [d] => { results := [.lit (.bool true)], args := [d] }
  | _ => none }
def attrReadRow : OpenClaim := { program := "ytdgnhaacdpmclaagreat", sum := "bdab15abd1b585042d62701a5264178a2f3ede59e464b220ae31ee8a7ece3455", func := "leafmesh/leafmeshlaw05.AttrRead", spec := "attrRead", unfollowed := true, recurses := true, apart := false }
def AttrReadSaid : Prop := attrReadRow.holds Tryz.pinned (OpenSpec.ofChange attrReadSpec)

/-- ITS FALSE NEIGHBOUR: 'it returns false'. Refute it at one input. -/
def attrReadWrong : ChangeSpec := { name := "attrRead", fn := fun _ => fun
  | [d] => { results := [.lit (.bool false)], args := [d] }
  | _ => none }
def AttrReadWrongFalsely : Prop := attrReadRow.holds Tryz.pinned (OpenSpec.ofChange attrReadWrong)

/-- 'leafmeshlaw05.AttrBack': WHATEVER THE INPUT: true; the input reads as it did. -/
def attrBackSpec : ChangeSpec := { name := "attrBack", fn := fun _ => fun
  | [d1, d2, d3] => { results := [.lit (.bool true)], args := [d1, d2, d3] }
  | _ => none }
def attrBackRow : OpenClaim := { program := "ytdgnhaacdpmclaagreat", sum := "bdab15abd1b585042d62701a5264178a2f3ede59e464b220ae31ee8a7ece3455", func := "leafmesh/leafmeshlaw05.AttrBack", spec := "attrBack", unfollowed := true, recurses := true, apart := false }
def AttrBackSaid : Prop := attrBackRow.holds Tryz.pinned (OpenSpec.ofChange attrBackSpec)

/-- ITS FALSE NEIGHBOUR: 'it returns false'. Refute it at one input. -/
def attrBackWrong : ChangeSpec := { name := "attrBack", fn := fun _ => fun
  | [d1, d2, d3] => { results := [.lit (.bool false)], args := [d1, d2, d3] }
  | _ => none }
def AttrBackWrongFalsely : Prop := attrBackRow.holds Tryz.pinned (OpenSpec.ofChange attrBackWrong)

/-- 'leafmeshlaw05.AttrAny': WHATEVER THE INPUT: true; the input reads as it did. -/
def attrAnySpec : ChangeSpec := { name := "attrAny", fn := fun _ => fun
  | [d1, d2, d3, d4, d5, d6, d7] => { results := [.lit (.bool true)], args := [d1, d2, d3, d4, d5, d6, d7] }
  | _ => none }
def attrAnyRow : OpenClaim := { program := "ytdgnhaacdpmclaagreat", sum := "bdab15abd1b585042d62701a5264178a2f3ede59e464b220ae31ee8a7ece3455", func := "leafmesh/leafmeshlaw05.AttrAny", spec := "attrAny", unfollowed := true, recurses := true, apart := false }
def AttrAnySaid : Prop := attrAnyRow.holds Tryz.pinned (OpenSpec.ofChange attrAnySpec)

/-- ITS FALSE NEIGHBOUR: 'it returns false'. Refute it at one input. -/
def attrAnyWrong : ChangeSpec := { name := "attrAny", fn := fun _ => fun
  | [d1, d2, d3, d4, d5, d6, d7] => { results := [.lit (.bool false)], args := [d1, d2, d3, d4, d5, d6, d7] }
  | _ => none }
def AttrAnyWrongFalsely : Prop := attrAnyRow.holds Tryz.pinned (OpenSpec.ofChange attrAnyWrong)

/-- 'leafmeshlaw05.AttrEnd': WHATEVER THE INPUT: true; the input reads as it did. -/
def attrEndSpec : ChangeSpec := { name := "attrEnd", fn := fun _ => fun
  | [d1, d2, d3] => { results := [.lit (.bool true)], args := [d1, d2, d3] }
  | _ => none }
def attrEndRow : OpenClaim := { program := "ytdgnhaacdpmclaagreat", sum := "bdab15abd1b585042d62701a5264178a2f3ede59e464b220ae31ee8a7ece3455", func := "leafmesh/leafmeshlaw05.AttrEnd", spec := "attrEnd", unfollowed := true, recurses := true, apart := false }
def AttrEndSaid : Prop := attrEndRow.holds Tryz.pinned (OpenSpec.ofChange attrEndSpec)

/-- ITS FALSE NEIGHBOUR: 'it returns false'. Refute it at one input. -/
def attrEndWrong : ChangeSpec := { name := "attrEnd", fn := fun _ => fun
  | [d1, d2, d3] => { results := [.lit (.bool false)], args := [d1, d2, d3] }
  | _ => none }
def AttrEndWrongFalsely : Prop := attrEndRow.holds Tryz.pinned (OpenSpec.ofChange attrEndWrong)

/- THE SECOND FORM. 'bulk': how many values and letters a reading holds, each counted each time it is reached (what is shared counts as often as it is met; a slice's spare places count too). A statement '..UptoSaid' is the law's where the arguments, and the package variables that the reading takes, are together of bulk at most 1048576: NARROWER than '..Said'. Prove '..Said' where nothing that the law and all that it calls make is longer than what came in: it says more and counts as full. Else prove '..UptoSaid'. A law counts once. -/
mutual
def uptoBulk {H : Type} : DataW H → Nat
  | .lit (.string bytes) => bytes.length + 1
  | .lit _ => 1
  | .nil => 1
  | .ptr d => uptoBulk d + 1
  | .slice elems spare => uptoBulkAll elems + uptoBulkAll spare + 1
  | .agg parts => uptoBulkAll parts + 1
  | .iface _ d => uptoBulk d + 1
  | .map entries => uptoBulkEntries entries + 1
  | .held _ => 1
def uptoBulkAll {H : Type} : List (DataW H) → Nat
  | [] => 0
  | d :: r => uptoBulk d + uptoBulkAll r
def uptoBulkEntries {H : Type} : List (Lit × DataW H) → Nat
  | [] => 0
  | x :: r => uptoBulkEntry x + uptoBulkEntries r
def uptoBulkEntry {H : Type} : Lit × DataW H → Nat
  | (.string bytes, d) => bytes.length + uptoBulk d + 1
  | (_, d) => uptoBulk d + 1
 end
def uptoSmall : (H : Type) → List (DataW H) → Bool := fun _ ds => decide (uptoBulkAll ds ≤ 1048576)
def OpenSpec.upto (s : _root_.Go.ChangeSpec) : _root_.Go.OpenSpec := { _root_.Go.OpenSpec.ofChange s with cond := some uptoSmall }

/-- 'leafmeshlaw05.AttrRead', WHERE WHAT IT READS IS OF BULK AT MOST 1048576: true; the input reads as it did. -/
def attrReadUptoRow : OpenClaim := { program := "ytdgnhaacdpmclaagreat", sum := "bdab15abd1b585042d62701a5264178a2f3ede59e464b220ae31ee8a7ece3455", func := "leafmesh/leafmeshlaw05.AttrRead", spec := "attrRead", unfollowed := true, recurses := true, apart := false, narrowed := true }
def AttrReadUptoSaid : Prop := attrReadUptoRow.holds Tryz.pinned (OpenSpec.upto attrReadSpec)

/-- 'leafmeshlaw05.AttrBack', WHERE WHAT IT READS IS OF BULK AT MOST 1048576: true; the input reads as it did. -/
def attrBackUptoRow : OpenClaim := { program := "ytdgnhaacdpmclaagreat", sum := "bdab15abd1b585042d62701a5264178a2f3ede59e464b220ae31ee8a7ece3455", func := "leafmesh/leafmeshlaw05.AttrBack", spec := "attrBack", unfollowed := true, recurses := true, apart := false, narrowed := true }
def AttrBackUptoSaid : Prop := attrBackUptoRow.holds Tryz.pinned (OpenSpec.upto attrBackSpec)

/-- 'leafmeshlaw05.AttrAny', WHERE WHAT IT READS IS OF BULK AT MOST 1048576: true; the input reads as it did. -/
def attrAnyUptoRow : OpenClaim := { program := "ytdgnhaacdpmclaagreat", sum := "bdab15abd1b585042d62701a5264178a2f3ede59e464b220ae31ee8a7ece3455", func := "leafmesh/leafmeshlaw05.AttrAny", spec := "attrAny", unfollowed := true, recurses := true, apart := false, narrowed := true }
def AttrAnyUptoSaid : Prop := attrAnyUptoRow.holds Tryz.pinned (OpenSpec.upto attrAnySpec)

/-- 'leafmeshlaw05.AttrEnd', WHERE WHAT IT READS IS OF BULK AT MOST 1048576: true; the input reads as it did. -/
def attrEndUptoRow : OpenClaim := { program := "ytdgnhaacdpmclaagreat", sum := "bdab15abd1b585042d62701a5264178a2f3ede59e464b220ae31ee8a7ece3455", func := "leafmesh/leafmeshlaw05.AttrEnd", spec := "attrEnd", unfollowed := true, recurses := true, apart := false, narrowed := true }
def AttrEndUptoSaid : Prop := attrEndUptoRow.holds Tryz.pinned (OpenSpec.upto attrEndSpec)

end Rows
end Go.Proofs.YtdgnhaacdpmclaaGreat
