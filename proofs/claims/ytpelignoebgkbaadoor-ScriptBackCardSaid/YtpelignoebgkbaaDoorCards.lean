/-
  DERIVED. GIVEN WITH THE SEED: THE CARDS: each row of YtpelignoebgkbaaDoorRows.lean that lists a variable, with what it lists TIED to the program's text (the seventh form; the later family's looks); each row that meets fmt, with fmt's text TOLD by the authors' own Lean function (tested against real Go, not proved from fmt's source: count such statements apart). THE CARD IS WHAT COUNTS. Prove the row's statement (the work); the ties are given (YtpelignoebgkbaaDoorTie.lean); close each card by the builder's one call (the guide's Derived/Test/ToyasCard.lean, 'card_holds'). Laid BY PROGRAM, IN A SANDBOX (cutbox-door.mjs). By AI agents, Wed Nov 11 2026. No macro, syntax, notation, axiom, sorry.
-/
import Derived.Test.YtpelignoebgkbaaDoorRows
import GoSem.ClaimSeven
namespace Go.Proofs.YtpelignoebgkbaaDoor
namespace Rows

/-- THE TIED CARD OF 'leafmeshlaw39.ScriptJoins'. -/
def scriptJoinsCard : Claim7 := { stood := { row := scriptJoinsRow, standIns := [], harness := (true, "61966693bf389f9f5b1f7039f93527e16b3124165a3db7c62488b5b8f5658ea1"), looks := true }, kinds := [], alts := [], laidByText := true, laidKinds := [.data, .pinned], laidTests := true, laidLooks := .later }
def ScriptJoinsCardSaid : Prop := Claim7.holds Tryd.pinned (.plain (OpenSpec.ofChange scriptJoinsSpec)) scriptJoinsCard

/-- THE TIED CARD OF 'leafmeshlaw39.ScriptFrames'. -/
def scriptFramesCard : Claim7 := { stood := { row := scriptFramesRow, standIns := [], harness := (true, "61966693bf389f9f5b1f7039f93527e16b3124165a3db7c62488b5b8f5658ea1"), looks := true }, kinds := [], alts := [], laidByText := true, laidKinds := [.data, .pinned], laidTests := true, laidLooks := .later }
def ScriptFramesCardSaid : Prop := Claim7.holds Tryd.pinned (.plain (OpenSpec.ofChange scriptFramesSpec)) scriptFramesCard

/-- THE TIED CARD OF 'leafmeshlaw39.ScriptBack'. -/
def scriptBackCard : Claim7 := { stood := { row := scriptBackRow, standIns := [], harness := (true, "61966693bf389f9f5b1f7039f93527e16b3124165a3db7c62488b5b8f5658ea1"), looks := true }, kinds := [], alts := [], laidByText := true, laidKinds := [.data, .data, .data, .data, .pinned], laidTests := true, laidLooks := .later }
def ScriptBackCardSaid : Prop := Claim7.holds Tryd.pinned (.plain (OpenSpec.ofChange scriptBackSpec)) scriptBackCard

/-- THE SECOND FORM's CARD OF 'leafmeshlaw39.ScriptJoins'. -/
def scriptJoinsUptoCard : Claim7 := { stood := { row := scriptJoinsUptoRow, standIns := [], harness := (true, "61966693bf389f9f5b1f7039f93527e16b3124165a3db7c62488b5b8f5658ea1"), looks := true }, kinds := [], alts := [], laidByText := true, laidKinds := [.data, .pinned], laidTests := true, laidLooks := .later }
def ScriptJoinsUptoCardSaid : Prop := Claim7.holds Tryd.pinned (.plain (OpenSpec.upto scriptJoinsSpec)) scriptJoinsUptoCard

/-- THE SECOND FORM's CARD OF 'leafmeshlaw39.ScriptFrames'. -/
def scriptFramesUptoCard : Claim7 := { stood := { row := scriptFramesUptoRow, standIns := [], harness := (true, "61966693bf389f9f5b1f7039f93527e16b3124165a3db7c62488b5b8f5658ea1"), looks := true }, kinds := [], alts := [], laidByText := true, laidKinds := [.data, .pinned], laidTests := true, laidLooks := .later }
def ScriptFramesUptoCardSaid : Prop := Claim7.holds Tryd.pinned (.plain (OpenSpec.upto scriptFramesSpec)) scriptFramesUptoCard

/-- THE SECOND FORM's CARD OF 'leafmeshlaw39.ScriptBack'. -/
def scriptBackUptoCard : Claim7 := { stood := { row := scriptBackUptoRow, standIns := [], harness := (true, "61966693bf389f9f5b1f7039f93527e16b3124165a3db7c62488b5b8f5658ea1"), looks := true }, kinds := [], alts := [], laidByText := true, laidKinds := [.data, .data, .data, .data, .pinned], laidTests := true, laidLooks := .later }
def ScriptBackUptoCardSaid : Prop := Claim7.holds Tryd.pinned (.plain (OpenSpec.upto scriptBackSpec)) scriptBackUptoCard
end Rows
end Go.Proofs.YtpelignoebgkbaaDoor
