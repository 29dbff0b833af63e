/-
  DERIVED. GIVEN WITH THE SEED: THE CARDS: each row of YtolfgcoalihmgaaGreatDoorRows.lean that lists a variable, with what it lists TIED to the program's text (the seventh form; the later family's looks); each row that meets fmt, with fmt's text TOLD by the authors' own Lean function (tested against real Go, not proved from fmt's source: count such statements apart). THE CARD IS WHAT COUNTS. Prove the row's statement (the work); the ties are given (YtolfgcoalihmgaaGreatDoorTie.lean); close each card by the builder's one call (the guide's Derived/Test/ToyasCard.lean, 'card_holds'). Laid BY PROGRAM, IN A SANDBOX (cutbox-door.mjs). By AI agents, Wed Nov 11 2026. No macro, syntax, notation, axiom, sorry.
-/
import Derived.Test.YtolfgcoalihmgaaGreatDoorRows
import GoSem.ClaimSeven
namespace Go.Proofs.YtolfgcoalihmgaaGreatDoor
namespace Rows

/-- THE TIED CARD OF 'changeforgetop.TopExactRangesContainOneVersion'. -/
def topExactRangesContainOneVersionCard : Claim7 := { stood := { row := topExactRangesContainOneVersionRow, standIns := [], harness := (true, "f4e4b98353697d295555dfc18437d77344737f648b074e04539bf2dd355ea977"), looks := true }, kinds := [], alts := [], laidByText := true, laidKinds := [.data, .data, .data, .data, .sentinel, .sentinel, .pinned], laidTests := true, laidLooks := .later }
def TopExactRangesContainOneVersionCardSaid : Prop := Claim7.holds Tryz.pinned (.plain (OpenSpec.ofChange topExactRangesContainOneVersionSpec)) topExactRangesContainOneVersionCard

/-- THE TIED CARD OF 'changeforgelaw5.VerrangeOperationsMatchSpec'. -/
def verrangeOperationsMatchSpecCard : Claim7 := { stood := { row := verrangeOperationsMatchSpecRow, standIns := [], harness := (true, "f4e4b98353697d295555dfc18437d77344737f648b074e04539bf2dd355ea977"), looks := true }, kinds := [], alts := [], laidByText := true, laidKinds := [.data, .data, .data, .data, .sentinel, .sentinel, .pinned], laidTests := true, laidLooks := .later }
def VerrangeOperationsMatchSpecCardSaid : Prop := Claim7.holds Tryz.pinned (.plain (OpenSpec.ofChange verrangeOperationsMatchSpecSpec)) verrangeOperationsMatchSpecCard

/-- THE TIED CARD OF 'changeforgelaw5.VerrangeTextMatchesSpec'. -/
def verrangeTextMatchesSpecCard : Claim7 := { stood := { row := verrangeTextMatchesSpecRow, standIns := [], harness := (true, "f4e4b98353697d295555dfc18437d77344737f648b074e04539bf2dd355ea977"), looks := true }, kinds := [], alts := [], laidByText := true, laidKinds := [.data, .data, .data, .data, .sentinel, .sentinel, .pinned], laidTests := true, laidLooks := .later }
def VerrangeTextMatchesSpecCardSaid : Prop := Claim7.holds Tryz.pinned (.plain (OpenSpec.ofChange verrangeTextMatchesSpecSpec)) verrangeTextMatchesSpecCard

/-- THE TIED CARD OF 'changeforgelaw5.SolverMatchesSpec'. -/
def solverMatchesSpecCard : Claim7 := { stood := { row := solverMatchesSpecRow, standIns := [], harness := (true, "f4e4b98353697d295555dfc18437d77344737f648b074e04539bf2dd355ea977"), looks := true }, kinds := [], alts := [], laidByText := true, laidKinds := [.data, .data, .data, .data, .sentinel, .sentinel, .pinned], laidTests := true, laidLooks := .later }
def SolverMatchesSpecCardSaid : Prop := Claim7.holds Tryz.pinned (.plain (OpenSpec.ofChange solverMatchesSpecSpec)) solverMatchesSpecCard

/-- THE TIED CARD OF 'changeforgelaw5.SolverSolveMatchesSpec'. -/
def solverSolveMatchesSpecCard : Claim7 := { stood := { row := solverSolveMatchesSpecRow, standIns := [], harness := (true, "f4e4b98353697d295555dfc18437d77344737f648b074e04539bf2dd355ea977"), looks := true }, kinds := [], alts := [], laidByText := true, laidKinds := [.data, .data, .data, .data, .sentinel, .sentinel, .pinned], laidTests := true, laidLooks := .later }
def SolverSolveMatchesSpecCardSaid : Prop := Claim7.holds Tryz.pinned (.plain (OpenSpec.ofChange solverSolveMatchesSpecSpec)) solverSolveMatchesSpecCard

/-- THE TIED CARD OF 'changeforgelaw5.SolverSolutionsAreBest'. -/
def solverSolutionsAreBestCard : Claim7 := { stood := { row := solverSolutionsAreBestRow, standIns := [], harness := (true, "f4e4b98353697d295555dfc18437d77344737f648b074e04539bf2dd355ea977"), looks := true }, kinds := [], alts := [], laidByText := true, laidKinds := [.data, .data, .data, .data, .sentinel, .sentinel, .pinned], laidTests := true, laidLooks := .later }
def SolverSolutionsAreBestCardSaid : Prop := Claim7.holds Tryz.pinned (.plain (OpenSpec.ofChange solverSolutionsAreBestSpec)) solverSolutionsAreBestCard

/-- THE TIED CARD OF 'changeforgelaw5.SolverFewerWantsAreEasier'. -/
def solverFewerWantsAreEasierCard : Claim7 := { stood := { row := solverFewerWantsAreEasierRow, standIns := [], harness := (true, "f4e4b98353697d295555dfc18437d77344737f648b074e04539bf2dd355ea977"), looks := true }, kinds := [], alts := [], laidByText := true, laidKinds := [.data, .data, .data, .data, .sentinel, .sentinel, .pinned], laidTests := true, laidLooks := .later }
def SolverFewerWantsAreEasierCardSaid : Prop := Claim7.holds Tryz.pinned (.plain (OpenSpec.ofChange solverFewerWantsAreEasierSpec)) solverFewerWantsAreEasierCard

/-- THE TIED CARD OF 'changeforgelaw5.SolverUnusedReleasesDoNotMatter'. -/
def solverUnusedReleasesDoNotMatterCard : Claim7 := { stood := { row := solverUnusedReleasesDoNotMatterRow, standIns := [], harness := (true, "f4e4b98353697d295555dfc18437d77344737f648b074e04539bf2dd355ea977"), looks := true }, kinds := [], alts := [], laidByText := true, laidKinds := [.data, .data, .data, .data, .sentinel, .sentinel, .pinned], laidTests := true, laidLooks := .later }
def SolverUnusedReleasesDoNotMatterCardSaid : Prop := Claim7.holds Tryz.pinned (.plain (OpenSpec.ofChange solverUnusedReleasesDoNotMatterSpec)) solverUnusedReleasesDoNotMatterCard

/-- THE TIED CARD OF 'changeforgetop.TopLockedVersionsSatisfyWants'. -/
def topLockedVersionsSatisfyWantsCard : Claim7 := { stood := { row := topLockedVersionsSatisfyWantsRow, standIns := [], harness := (true, "f4e4b98353697d295555dfc18437d77344737f648b074e04539bf2dd355ea977"), looks := true }, kinds := [], alts := [], laidByText := true, laidKinds := [.data, .data, .data, .data, .sentinel, .sentinel, .pinned], laidTests := true, laidLooks := .later }
def TopLockedVersionsSatisfyWantsCardSaid : Prop := Claim7.holds Tryz.pinned (.plain (OpenSpec.ofChange topLockedVersionsSatisfyWantsSpec)) topLockedVersionsSatisfyWantsCard

/-- THE SECOND FORM's CARD OF 'changeforgetop.TopExactRangesContainOneVersion'. -/
def topExactRangesContainOneVersionUptoCard : Claim7 := { stood := { row := topExactRangesContainOneVersionUptoRow, standIns := [], harness := (true, "f4e4b98353697d295555dfc18437d77344737f648b074e04539bf2dd355ea977"), looks := true }, kinds := [], alts := [], laidByText := true, laidKinds := [.data, .data, .data, .data, .sentinel, .sentinel, .pinned], laidTests := true, laidLooks := .later }
def TopExactRangesContainOneVersionUptoCardSaid : Prop := Claim7.holds Tryz.pinned (.plain (OpenSpec.upto topExactRangesContainOneVersionSpec)) topExactRangesContainOneVersionUptoCard

/-- THE SECOND FORM's CARD OF 'changeforgelaw5.VerrangeOperationsMatchSpec'. -/
def verrangeOperationsMatchSpecUptoCard : Claim7 := { stood := { row := verrangeOperationsMatchSpecUptoRow, standIns := [], harness := (true, "f4e4b98353697d295555dfc18437d77344737f648b074e04539bf2dd355ea977"), looks := true }, kinds := [], alts := [], laidByText := true, laidKinds := [.data, .data, .data, .data, .sentinel, .sentinel, .pinned], laidTests := true, laidLooks := .later }
def VerrangeOperationsMatchSpecUptoCardSaid : Prop := Claim7.holds Tryz.pinned (.plain (OpenSpec.upto verrangeOperationsMatchSpecSpec)) verrangeOperationsMatchSpecUptoCard

/-- THE SECOND FORM's CARD OF 'changeforgelaw5.VerrangeTextMatchesSpec'. -/
def verrangeTextMatchesSpecUptoCard : Claim7 := { stood := { row := verrangeTextMatchesSpecUptoRow, standIns := [], harness := (true, "f4e4b98353697d295555dfc18437d77344737f648b074e04539bf2dd355ea977"), looks := true }, kinds := [], alts := [], laidByText := true, laidKinds := [.data, .data, .data, .data, .sentinel, .sentinel, .pinned], laidTests := true, laidLooks := .later }
def VerrangeTextMatchesSpecUptoCardSaid : Prop := Claim7.holds Tryz.pinned (.plain (OpenSpec.upto verrangeTextMatchesSpecSpec)) verrangeTextMatchesSpecUptoCard

/-- THE SECOND FORM's CARD OF 'changeforgelaw5.SolverMatchesSpec'. -/
def solverMatchesSpecUptoCard : Claim7 := { stood := { row := solverMatchesSpecUptoRow, standIns := [], harness := (true, "f4e4b98353697d295555dfc18437d77344737f648b074e04539bf2dd355ea977"), looks := true }, kinds := [], alts := [], laidByText := true, laidKinds := [.data, .data, .data, .data, .sentinel, .sentinel, .pinned], laidTests := true, laidLooks := .later }
def SolverMatchesSpecUptoCardSaid : Prop := Claim7.holds Tryz.pinned (.plain (OpenSpec.upto solverMatchesSpecSpec)) solverMatchesSpecUptoCard

/-- THE SECOND FORM's CARD OF 'changeforgelaw5.SolverSolveMatchesSpec'. -/
def solverSolveMatchesSpecUptoCard : Claim7 := { stood := { row := solverSolveMatchesSpecUptoRow, standIns := [], harness := (true, "f4e4b98353697d295555dfc18437d77344737f648b074e04539bf2dd355ea977"), looks := true }, kinds := [], alts := [], laidByText := true, laidKinds := [.data, .data, .data, .data, .sentinel, .sentinel, .pinned], laidTests := true, laidLooks := .later }
def SolverSolveMatchesSpecUptoCardSaid : Prop := Claim7.holds Tryz.pinned (.plain (OpenSpec.upto solverSolveMatchesSpecSpec)) solverSolveMatchesSpecUptoCard

/-- THE SECOND FORM's CARD OF 'changeforgelaw5.SolverSolutionsAreBest'. -/
def solverSolutionsAreBestUptoCard : Claim7 := { stood := { row := solverSolutionsAreBestUptoRow, standIns := [], harness := (true, "f4e4b98353697d295555dfc18437d77344737f648b074e04539bf2dd355ea977"), looks := true }, kinds := [], alts := [], laidByText := true, laidKinds := [.data, .data, .data, .data, .sentinel, .sentinel, .pinned], laidTests := true, laidLooks := .later }
def SolverSolutionsAreBestUptoCardSaid : Prop := Claim7.holds Tryz.pinned (.plain (OpenSpec.upto solverSolutionsAreBestSpec)) solverSolutionsAreBestUptoCard

/-- THE SECOND FORM's CARD OF 'changeforgelaw5.SolverFewerWantsAreEasier'. -/
def solverFewerWantsAreEasierUptoCard : Claim7 := { stood := { row := solverFewerWantsAreEasierUptoRow, standIns := [], harness := (true, "f4e4b98353697d295555dfc18437d77344737f648b074e04539bf2dd355ea977"), looks := true }, kinds := [], alts := [], laidByText := true, laidKinds := [.data, .data, .data, .data, .sentinel, .sentinel, .pinned], laidTests := true, laidLooks := .later }
def SolverFewerWantsAreEasierUptoCardSaid : Prop := Claim7.holds Tryz.pinned (.plain (OpenSpec.upto solverFewerWantsAreEasierSpec)) solverFewerWantsAreEasierUptoCard

/-- THE SECOND FORM's CARD OF 'changeforgelaw5.SolverUnusedReleasesDoNotMatter'. -/
def solverUnusedReleasesDoNotMatterUptoCard : Claim7 := { stood := { row := solverUnusedReleasesDoNotMatterUptoRow, standIns := [], harness := (true, "f4e4b98353697d295555dfc18437d77344737f648b074e04539bf2dd355ea977"), looks := true }, kinds := [], alts := [], laidByText := true, laidKinds := [.data, .data, .data, .data, .sentinel, .sentinel, .pinned], laidTests := true, laidLooks := .later }
def SolverUnusedReleasesDoNotMatterUptoCardSaid : Prop := Claim7.holds Tryz.pinned (.plain (OpenSpec.upto solverUnusedReleasesDoNotMatterSpec)) solverUnusedReleasesDoNotMatterUptoCard

/-- THE SECOND FORM's CARD OF 'changeforgetop.TopLockedVersionsSatisfyWants'. -/
def topLockedVersionsSatisfyWantsUptoCard : Claim7 := { stood := { row := topLockedVersionsSatisfyWantsUptoRow, standIns := [], harness := (true, "f4e4b98353697d295555dfc18437d77344737f648b074e04539bf2dd355ea977"), looks := true }, kinds := [], alts := [], laidByText := true, laidKinds := [.data, .data, .data, .data, .sentinel, .sentinel, .pinned], laidTests := true, laidLooks := .later }
def TopLockedVersionsSatisfyWantsUptoCardSaid : Prop := Claim7.holds Tryz.pinned (.plain (OpenSpec.upto topLockedVersionsSatisfyWantsSpec)) topLockedVersionsSatisfyWantsUptoCard
end Rows
end Go.Proofs.YtolfgcoalihmgaaGreatDoor
