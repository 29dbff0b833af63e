/-
  DERIVED. GIVEN WITH THE SEED: THE CARDS: each row of YtgngehfgcogceaaGreatDoorRows.lean that lists a variable, with what it lists TIED to the program's text (the seventh form; the later family's looks); each row that meets fmt, with fmt's text TOLD by the authors' own Lean function (tested against real Go, not proved from fmt's source: count such statements apart). THE CARD IS WHAT COUNTS. Prove the row's statement (the work); the ties are given (YtgngehfgcogceaaGreatDoorTie.lean); close each card by the builder's one call (the guide's Derived/Test/ToyasCard.lean, 'card_holds'). Laid BY PROGRAM, IN A SANDBOX (cutbox-door.mjs). By AI agents, Wed Nov 11 2026. No macro, syntax, notation, axiom, sorry.
-/
import Derived.Test.YtgngehfgcogceaaGreatDoorRows
import GoSem.ClaimSeven
namespace Go.Proofs.YtgngehfgcogceaaGreatDoor
namespace Rows

/-- THE TIED CARD OF 'changeforgetop.TopLockedVersionsSatisfyWants'. -/
def topLockedVersionsSatisfyWantsCard : Claim7 := { stood := { row := topLockedVersionsSatisfyWantsRow, standIns := [], harness := (true, "3a75e6cb8045956fc8cbf017104a165d4a4b8c0ec85e7055614373cc7319be43"), looks := true }, kinds := [], alts := [], laidByText := true, laidKinds := [.data, .data, .data, .data, .sentinel, .sentinel, .pinned], laidTests := true, laidLooks := .later }
def TopLockedVersionsSatisfyWantsCardSaid : Prop := Claim7.holds Tryz.pinned (.plain (OpenSpec.ofChange topLockedVersionsSatisfyWantsSpec)) topLockedVersionsSatisfyWantsCard

/-- THE SECOND FORM's CARD OF 'changeforgetop.TopLockedVersionsSatisfyWants'. -/
def topLockedVersionsSatisfyWantsUptoCard : Claim7 := { stood := { row := topLockedVersionsSatisfyWantsUptoRow, standIns := [], harness := (true, "3a75e6cb8045956fc8cbf017104a165d4a4b8c0ec85e7055614373cc7319be43"), looks := true }, kinds := [], alts := [], laidByText := true, laidKinds := [.data, .data, .data, .data, .sentinel, .sentinel, .pinned], laidTests := true, laidLooks := .later }
def TopLockedVersionsSatisfyWantsUptoCardSaid : Prop := Claim7.holds Tryz.pinned (.plain (OpenSpec.upto topLockedVersionsSatisfyWantsSpec)) topLockedVersionsSatisfyWantsUptoCard
end Rows
end Go.Proofs.YtgngehfgcogceaaGreatDoor
