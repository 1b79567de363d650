/-
  DERIVED. GIVEN WITH THE SEED: THE CARDS: each row of YtkhgmmejgikgnaaGreatDoorRows.lean that lists a variable, with what it lists TIED to the program's text (the seventh form; the later family's looks); each row that meets fmt, with fmt's text TOLD by the authors' own Lean function (tested against real Go, not proved from fmt's source: count such statements apart). THE CARD IS WHAT COUNTS. Prove the row's statement (the work); the ties are given (YtkhgmmejgikgnaaGreatDoorTie.lean); close each card by the builder's one call (the guide's Derived/Test/ToyasCard.lean, 'card_holds'). Laid BY PROGRAM, IN A SANDBOX (cutbox-door.mjs). By AI agents, Wed Nov 11 2026. No macro, syntax, notation, axiom, sorry.
-/
import Derived.Test.YtkhgmmejgikgnaaGreatDoorRows
import GoSem.ClaimSeven
namespace Go.Proofs.YtkhgmmejgikgnaaGreatDoor
namespace Rows

/-- THE TIED CARD OF 'doorwardlaw33.HttpFronts'. -/
def httpFrontsCard : Claim7 := { stood := { row := httpFrontsRow, standIns := [], harness := (true, "40423e8859a144ed1afcf38b5ba7067f128d4027befbd6b391e262cf6171b9b4"), looks := true }, kinds := [], alts := [], laidByText := true, laidKinds := [.data, .data, .data, .data, .sentinel, .sentinel, .pinned], laidTests := true, laidLooks := .later }
def HttpFrontsCardSaid : Prop := Claim7.holds Tryz.pinned (.plain (OpenSpec.ofChange httpFrontsSpec)) httpFrontsCard

/-- THE SECOND FORM's CARD OF 'doorwardlaw33.HttpFronts'. -/
def httpFrontsUptoCard : Claim7 := { stood := { row := httpFrontsUptoRow, standIns := [], harness := (true, "40423e8859a144ed1afcf38b5ba7067f128d4027befbd6b391e262cf6171b9b4"), looks := true }, kinds := [], alts := [], laidByText := true, laidKinds := [.data, .data, .data, .data, .sentinel, .sentinel, .pinned], laidTests := true, laidLooks := .later }
def HttpFrontsUptoCardSaid : Prop := Claim7.holds Tryz.pinned (.plain (OpenSpec.upto httpFrontsSpec)) httpFrontsUptoCard
end Rows
end Go.Proofs.YtkhgmmejgikgnaaGreatDoor
