/-
  DERIVED. GIVEN WITH THE SEED: THE CARDS: each row of YthnhajihkdgifaaDoorRows.lean that lists a variable, with what it lists TIED to the program's text (the seventh form; the later family's looks); each row that meets fmt, with fmt's text TOLD by the authors' own Lean function (tested against real Go, not proved from fmt's source: count such statements apart). THE CARD IS WHAT COUNTS. Prove the row's statement (the work); the ties are given (YthnhajihkdgifaaDoorTie.lean); close each card by the builder's one call (the guide's Derived/Test/ToyasCard.lean, 'card_holds'). Laid BY PROGRAM, IN A SANDBOX (cutbox-door.mjs). By AI agents, Wed Nov 11 2026. No macro, syntax, notation, axiom, sorry.
-/
import Derived.Test.YthnhajihkdgifaaDoorRows
import GoSem.ClaimSeven
namespace Go.Proofs.YthnhajihkdgifaaDoor
namespace Rows

/-- THE TIED CARD OF 'changeforgelaw5.VersionMatchesSpec'. -/
def versionMatchesSpecCard : Claim7 := { stood := { row := versionMatchesSpecRow, standIns := [], harness := (true, "81114967c5288af5a0d98aae6f68b026b049902b9b93ba86b217ed2c4ac6ff27"), looks := true }, kinds := [], alts := [], laidByText := true, laidKinds := [.data, .data, .data, .data, .sentinel, .sentinel, .pinned], laidTests := true, laidLooks := .later }
def VersionMatchesSpecCardSaid : Prop := Claim7.holds Tryd.pinned (.plain (OpenSpec.ofChange versionMatchesSpecSpec)) versionMatchesSpecCard

/-- THE TIED CARD OF 'changeforgelaw5.VersionTextMatchesSpec'. -/
def versionTextMatchesSpecCard : Claim7 := { stood := { row := versionTextMatchesSpecRow, standIns := [], harness := (true, "81114967c5288af5a0d98aae6f68b026b049902b9b93ba86b217ed2c4ac6ff27"), looks := true }, kinds := [], alts := [], laidByText := true, laidKinds := [.data, .data, .data, .data, .sentinel, .sentinel, .pinned], laidTests := true, laidLooks := .later }
def VersionTextMatchesSpecCardSaid : Prop := Claim7.holds Tryd.pinned (.plain (OpenSpec.ofChange versionTextMatchesSpecSpec)) versionTextMatchesSpecCard

/-- THE TIED CARD OF 'changeforgelaw5.VersionTextsAreCanonical'. -/
def versionTextsAreCanonicalCard : Claim7 := { stood := { row := versionTextsAreCanonicalRow, standIns := [], harness := (true, "81114967c5288af5a0d98aae6f68b026b049902b9b93ba86b217ed2c4ac6ff27"), looks := true }, kinds := [], alts := [], laidByText := true, laidKinds := [.data, .data, .data, .data, .sentinel, .sentinel, .pinned], laidTests := true, laidLooks := .later }
def VersionTextsAreCanonicalCardSaid : Prop := Claim7.holds Tryd.pinned (.plain (OpenSpec.ofChange versionTextsAreCanonicalSpec)) versionTextsAreCanonicalCard

/-- THE TIED CARD OF 'changeforgelaw5.VersionOrderIsTotal'. -/
def versionOrderIsTotalCard : Claim7 := { stood := { row := versionOrderIsTotalRow, standIns := [], harness := (true, "81114967c5288af5a0d98aae6f68b026b049902b9b93ba86b217ed2c4ac6ff27"), looks := true }, kinds := [], alts := [], laidByText := true, laidKinds := [.data, .data, .data, .data, .sentinel, .sentinel, .pinned], laidTests := true, laidLooks := .later }
def VersionOrderIsTotalCardSaid : Prop := Claim7.holds Tryd.pinned (.plain (OpenSpec.ofChange versionOrderIsTotalSpec)) versionOrderIsTotalCard

/-- THE TIED CARD OF 'changeforgelaw5.VersionNextIsTheSuccessor'. -/
def versionNextIsTheSuccessorCard : Claim7 := { stood := { row := versionNextIsTheSuccessorRow, standIns := [], harness := (true, "81114967c5288af5a0d98aae6f68b026b049902b9b93ba86b217ed2c4ac6ff27"), looks := true }, kinds := [], alts := [], laidByText := true, laidKinds := [.data, .data, .data, .data, .sentinel, .sentinel, .pinned], laidTests := true, laidLooks := .later }
def VersionNextIsTheSuccessorCardSaid : Prop := Claim7.holds Tryd.pinned (.plain (OpenSpec.ofChange versionNextIsTheSuccessorSpec)) versionNextIsTheSuccessorCard

/-- THE TIED CARD OF 'changeforgelaw5.VersionReleasesComeLast'. -/
def versionReleasesComeLastCard : Claim7 := { stood := { row := versionReleasesComeLastRow, standIns := [], harness := (true, "81114967c5288af5a0d98aae6f68b026b049902b9b93ba86b217ed2c4ac6ff27"), looks := true }, kinds := [], alts := [], laidByText := true, laidKinds := [.data, .data, .data, .data, .sentinel, .sentinel, .pinned], laidTests := true, laidLooks := .later }
def VersionReleasesComeLastCardSaid : Prop := Claim7.holds Tryd.pinned (.plain (OpenSpec.ofChange versionReleasesComeLastSpec)) versionReleasesComeLastCard

/-- THE SECOND FORM's CARD OF 'changeforgelaw5.VersionMatchesSpec'. -/
def versionMatchesSpecUptoCard : Claim7 := { stood := { row := versionMatchesSpecUptoRow, standIns := [], harness := (true, "81114967c5288af5a0d98aae6f68b026b049902b9b93ba86b217ed2c4ac6ff27"), looks := true }, kinds := [], alts := [], laidByText := true, laidKinds := [.data, .data, .data, .data, .sentinel, .sentinel, .pinned], laidTests := true, laidLooks := .later }
def VersionMatchesSpecUptoCardSaid : Prop := Claim7.holds Tryd.pinned (.plain (OpenSpec.upto versionMatchesSpecSpec)) versionMatchesSpecUptoCard

/-- THE SECOND FORM's CARD OF 'changeforgelaw5.VersionTextMatchesSpec'. -/
def versionTextMatchesSpecUptoCard : Claim7 := { stood := { row := versionTextMatchesSpecUptoRow, standIns := [], harness := (true, "81114967c5288af5a0d98aae6f68b026b049902b9b93ba86b217ed2c4ac6ff27"), looks := true }, kinds := [], alts := [], laidByText := true, laidKinds := [.data, .data, .data, .data, .sentinel, .sentinel, .pinned], laidTests := true, laidLooks := .later }
def VersionTextMatchesSpecUptoCardSaid : Prop := Claim7.holds Tryd.pinned (.plain (OpenSpec.upto versionTextMatchesSpecSpec)) versionTextMatchesSpecUptoCard

/-- THE SECOND FORM's CARD OF 'changeforgelaw5.VersionTextsAreCanonical'. -/
def versionTextsAreCanonicalUptoCard : Claim7 := { stood := { row := versionTextsAreCanonicalUptoRow, standIns := [], harness := (true, "81114967c5288af5a0d98aae6f68b026b049902b9b93ba86b217ed2c4ac6ff27"), looks := true }, kinds := [], alts := [], laidByText := true, laidKinds := [.data, .data, .data, .data, .sentinel, .sentinel, .pinned], laidTests := true, laidLooks := .later }
def VersionTextsAreCanonicalUptoCardSaid : Prop := Claim7.holds Tryd.pinned (.plain (OpenSpec.upto versionTextsAreCanonicalSpec)) versionTextsAreCanonicalUptoCard

/-- THE SECOND FORM's CARD OF 'changeforgelaw5.VersionOrderIsTotal'. -/
def versionOrderIsTotalUptoCard : Claim7 := { stood := { row := versionOrderIsTotalUptoRow, standIns := [], harness := (true, "81114967c5288af5a0d98aae6f68b026b049902b9b93ba86b217ed2c4ac6ff27"), looks := true }, kinds := [], alts := [], laidByText := true, laidKinds := [.data, .data, .data, .data, .sentinel, .sentinel, .pinned], laidTests := true, laidLooks := .later }
def VersionOrderIsTotalUptoCardSaid : Prop := Claim7.holds Tryd.pinned (.plain (OpenSpec.upto versionOrderIsTotalSpec)) versionOrderIsTotalUptoCard

/-- THE SECOND FORM's CARD OF 'changeforgelaw5.VersionNextIsTheSuccessor'. -/
def versionNextIsTheSuccessorUptoCard : Claim7 := { stood := { row := versionNextIsTheSuccessorUptoRow, standIns := [], harness := (true, "81114967c5288af5a0d98aae6f68b026b049902b9b93ba86b217ed2c4ac6ff27"), looks := true }, kinds := [], alts := [], laidByText := true, laidKinds := [.data, .data, .data, .data, .sentinel, .sentinel, .pinned], laidTests := true, laidLooks := .later }
def VersionNextIsTheSuccessorUptoCardSaid : Prop := Claim7.holds Tryd.pinned (.plain (OpenSpec.upto versionNextIsTheSuccessorSpec)) versionNextIsTheSuccessorUptoCard

/-- THE SECOND FORM's CARD OF 'changeforgelaw5.VersionReleasesComeLast'. -/
def versionReleasesComeLastUptoCard : Claim7 := { stood := { row := versionReleasesComeLastUptoRow, standIns := [], harness := (true, "81114967c5288af5a0d98aae6f68b026b049902b9b93ba86b217ed2c4ac6ff27"), looks := true }, kinds := [], alts := [], laidByText := true, laidKinds := [.data, .data, .data, .data, .sentinel, .sentinel, .pinned], laidTests := true, laidLooks := .later }
def VersionReleasesComeLastUptoCardSaid : Prop := Claim7.holds Tryd.pinned (.plain (OpenSpec.upto versionReleasesComeLastSpec)) versionReleasesComeLastUptoCard
end Rows
end Go.Proofs.YthnhajihkdgifaaDoor
