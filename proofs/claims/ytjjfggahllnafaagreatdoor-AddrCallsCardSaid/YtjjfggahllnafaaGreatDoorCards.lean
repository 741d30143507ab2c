/-
  DERIVED. GIVEN WITH THE SEED: THE CARDS: each row of YtjjfggahllnafaaGreatDoorRows.lean that lists a variable, with what it lists TIED to the program's text (the seventh form; the later family's looks); each row that meets fmt, with fmt's text TOLD by the authors' own Lean function (tested against real Go, not proved from fmt's source: count such statements apart). THE CARD IS WHAT COUNTS. Prove the row's statement (the work); the ties are given (YtjjfggahllnafaaGreatDoorTie.lean); close each card by the builder's one call (the guide's Derived/Test/ToyasCard.lean, 'card_holds'). Laid BY PROGRAM, IN A SANDBOX (cutbox-door.mjs). By AI agents, Wed Nov 11 2026. No macro, syntax, notation, axiom, sorry.
-/
import Derived.Test.YtjjfggahllnafaaGreatDoorRows
import GoSem.ClaimSeven
namespace Go.Proofs.YtjjfggahllnafaaGreatDoor
namespace Rows

/-- THE TIED CARD OF 'leafmeshlaw01.AddrCalls'. -/
def addrCallsCard : Claim7 := { stood := { row := addrCallsRow, standIns := [], harness := (true, "2dcddc156f20d59453428d52c1766cee45c15e272d7d6f0e3a1920314252cbc1"), looks := false }, kinds := [], alts := [], laidByText := true, laidKinds := [.data, .data, .data], laidTests := true, laidLooks := .later }
def AddrCallsCardSaid : Prop := Claim7.holds Tryz.pinned (.plain (OpenSpec.ofChange addrCallsSpec)) addrCallsCard

/-- THE SECOND FORM's CARD OF 'leafmeshlaw01.AddrCalls'. -/
def addrCallsUptoCard : Claim7 := { stood := { row := addrCallsUptoRow, standIns := [], harness := (true, "2dcddc156f20d59453428d52c1766cee45c15e272d7d6f0e3a1920314252cbc1"), looks := false }, kinds := [], alts := [], laidByText := true, laidKinds := [.data, .data, .data], laidTests := true, laidLooks := .later }
def AddrCallsUptoCardSaid : Prop := Claim7.holds Tryz.pinned (.plain (OpenSpec.upto addrCallsSpec)) addrCallsUptoCard
end Rows
end Go.Proofs.YtjjfggahllnafaaGreatDoor
