/-
  DERIVED. GIVEN WITH THE SEED: THE CARDS: each row of YtjfkmbehckdjlaaGreatDoorRows.lean that lists a variable, with what it lists TIED to the program's text (the seventh form; the later family's looks); each row that meets fmt, with fmt's text TOLD by the authors' own Lean function (tested against real Go, not proved from fmt's source: count such statements apart). THE CARD IS WHAT COUNTS. Prove the row's statement (the work); the ties are given (YtjfkmbehckdjlaaGreatDoorTie.lean); close each card by the builder's one call (the guide's Derived/Test/ToyasCard.lean, 'card_holds'). Laid BY PROGRAM, IN A SANDBOX (cutbox-door.mjs). By AI agents, Wed Nov 11 2026. No macro, syntax, notation, axiom, sorry.
-/
import Derived.Test.YtjfkmbehckdjlaaGreatDoorRows
import GoSem.ClaimSeven
namespace Go.Proofs.YtjfkmbehckdjlaaGreatDoor
namespace Rows

/-- THE TIED CARD OF 'changeforgelaw5.VerrangeMatchesSpec'. -/
def verrangeMatchesSpecCard : Claim7 := { stood := { row := verrangeMatchesSpecRow, standIns := [], harness := (true, "56a09ddcd0c67aa3af83060698c73fdb188e74392913be346737b13c8db53e3c"), looks := true }, kinds := [], alts := [], laidByText := true, laidKinds := [.data, .data, .data, .data, .sentinel, .sentinel, .pinned], laidTests := true, laidLooks := .later }
def VerrangeMatchesSpecCardSaid : Prop := Claim7.holds Tryz.pinned (.plain (OpenSpec.ofChange verrangeMatchesSpecSpec)) verrangeMatchesSpecCard

/-- THE TIED CARD OF 'changeforgelaw5.VerrangeOperationsMatchSpec'. -/
def verrangeOperationsMatchSpecCard : Claim7 := { stood := { row := verrangeOperationsMatchSpecRow, standIns := [], harness := (true, "56a09ddcd0c67aa3af83060698c73fdb188e74392913be346737b13c8db53e3c"), looks := true }, kinds := [], alts := [], laidByText := true, laidKinds := [.data, .data, .data, .data, .sentinel, .sentinel, .pinned], laidTests := true, laidLooks := .later }
def VerrangeOperationsMatchSpecCardSaid : Prop := Claim7.holds Tryz.pinned (.plain (OpenSpec.ofChange verrangeOperationsMatchSpecSpec)) verrangeOperationsMatchSpecCard

/-- THE TIED CARD OF 'changeforgelaw5.VerrangeTextMatchesSpec'. -/
def verrangeTextMatchesSpecCard : Claim7 := { stood := { row := verrangeTextMatchesSpecRow, standIns := [], harness := (true, "56a09ddcd0c67aa3af83060698c73fdb188e74392913be346737b13c8db53e3c"), looks := true }, kinds := [], alts := [], laidByText := true, laidKinds := [.data, .data, .data, .data, .sentinel, .sentinel, .pinned], laidTests := true, laidLooks := .later }
def VerrangeTextMatchesSpecCardSaid : Prop := Claim7.holds Tryz.pinned (.plain (OpenSpec.ofChange verrangeTextMatchesSpecSpec)) verrangeTextMatchesSpecCard

/-- THE TIED CARD OF 'changeforgelaw5.VerrangeParsesFormatted'. -/
def verrangeParsesFormattedCard : Claim7 := { stood := { row := verrangeParsesFormattedRow, standIns := [], harness := (true, "56a09ddcd0c67aa3af83060698c73fdb188e74392913be346737b13c8db53e3c"), looks := true }, kinds := [], alts := [], laidByText := true, laidKinds := [.data, .data, .data, .data, .sentinel, .sentinel, .pinned], laidTests := true, laidLooks := .later }
def VerrangeParsesFormattedCardSaid : Prop := Claim7.holds Tryz.pinned (.plain (OpenSpec.ofChange verrangeParsesFormattedSpec)) verrangeParsesFormattedCard

/-- THE TIED CARD OF 'changeforgelaw5.VerrangeOperationsAreSetOperations'. -/
def verrangeOperationsAreSetOperationsCard : Claim7 := { stood := { row := verrangeOperationsAreSetOperationsRow, standIns := [], harness := (true, "56a09ddcd0c67aa3af83060698c73fdb188e74392913be346737b13c8db53e3c"), looks := true }, kinds := [], alts := [], laidByText := true, laidKinds := [.data, .data, .data, .data, .sentinel, .sentinel, .pinned], laidTests := true, laidLooks := .later }
def VerrangeOperationsAreSetOperationsCardSaid : Prop := Claim7.holds Tryz.pinned (.plain (OpenSpec.ofChange verrangeOperationsAreSetOperationsSpec)) verrangeOperationsAreSetOperationsCard

/-- THE TIED CARD OF 'changeforgelaw5.VerrangeDualityHolds'. -/
def verrangeDualityHoldsCard : Claim7 := { stood := { row := verrangeDualityHoldsRow, standIns := [], harness := (true, "56a09ddcd0c67aa3af83060698c73fdb188e74392913be346737b13c8db53e3c"), looks := true }, kinds := [], alts := [], laidByText := true, laidKinds := [.data, .data, .data, .data, .sentinel, .sentinel, .pinned], laidTests := true, laidLooks := .later }
def VerrangeDualityHoldsCardSaid : Prop := Claim7.holds Tryz.pinned (.plain (OpenSpec.ofChange verrangeDualityHoldsSpec)) verrangeDualityHoldsCard

/-- THE TIED CARD OF 'changeforgelaw5.VerrangeRepresentationsAreUnique'. -/
def verrangeRepresentationsAreUniqueCard : Claim7 := { stood := { row := verrangeRepresentationsAreUniqueRow, standIns := [], harness := (true, "56a09ddcd0c67aa3af83060698c73fdb188e74392913be346737b13c8db53e3c"), looks := true }, kinds := [], alts := [], laidByText := true, laidKinds := [.data, .data, .data, .data, .sentinel, .sentinel, .pinned], laidTests := true, laidLooks := .later }
def VerrangeRepresentationsAreUniqueCardSaid : Prop := Claim7.holds Tryz.pinned (.plain (OpenSpec.ofChange verrangeRepresentationsAreUniqueSpec)) verrangeRepresentationsAreUniqueCard

/-- THE TIED CARD OF 'changeforgetop.TopExactRangesContainOneVersion'. -/
def topExactRangesContainOneVersionCard : Claim7 := { stood := { row := topExactRangesContainOneVersionRow, standIns := [], harness := (true, "56a09ddcd0c67aa3af83060698c73fdb188e74392913be346737b13c8db53e3c"), looks := true }, kinds := [], alts := [], laidByText := true, laidKinds := [.data, .data, .data, .data, .sentinel, .sentinel, .pinned], laidTests := true, laidLooks := .later }
def TopExactRangesContainOneVersionCardSaid : Prop := Claim7.holds Tryz.pinned (.plain (OpenSpec.ofChange topExactRangesContainOneVersionSpec)) topExactRangesContainOneVersionCard

/-- THE SECOND FORM's CARD OF 'changeforgelaw5.VerrangeMatchesSpec'. -/
def verrangeMatchesSpecUptoCard : Claim7 := { stood := { row := verrangeMatchesSpecUptoRow, standIns := [], harness := (true, "56a09ddcd0c67aa3af83060698c73fdb188e74392913be346737b13c8db53e3c"), looks := true }, kinds := [], alts := [], laidByText := true, laidKinds := [.data, .data, .data, .data, .sentinel, .sentinel, .pinned], laidTests := true, laidLooks := .later }
def VerrangeMatchesSpecUptoCardSaid : Prop := Claim7.holds Tryz.pinned (.plain (OpenSpec.upto verrangeMatchesSpecSpec)) verrangeMatchesSpecUptoCard

/-- THE SECOND FORM's CARD OF 'changeforgelaw5.VerrangeOperationsMatchSpec'. -/
def verrangeOperationsMatchSpecUptoCard : Claim7 := { stood := { row := verrangeOperationsMatchSpecUptoRow, standIns := [], harness := (true, "56a09ddcd0c67aa3af83060698c73fdb188e74392913be346737b13c8db53e3c"), looks := true }, kinds := [], alts := [], laidByText := true, laidKinds := [.data, .data, .data, .data, .sentinel, .sentinel, .pinned], laidTests := true, laidLooks := .later }
def VerrangeOperationsMatchSpecUptoCardSaid : Prop := Claim7.holds Tryz.pinned (.plain (OpenSpec.upto verrangeOperationsMatchSpecSpec)) verrangeOperationsMatchSpecUptoCard

/-- THE SECOND FORM's CARD OF 'changeforgelaw5.VerrangeTextMatchesSpec'. -/
def verrangeTextMatchesSpecUptoCard : Claim7 := { stood := { row := verrangeTextMatchesSpecUptoRow, standIns := [], harness := (true, "56a09ddcd0c67aa3af83060698c73fdb188e74392913be346737b13c8db53e3c"), looks := true }, kinds := [], alts := [], laidByText := true, laidKinds := [.data, .data, .data, .data, .sentinel, .sentinel, .pinned], laidTests := true, laidLooks := .later }
def VerrangeTextMatchesSpecUptoCardSaid : Prop := Claim7.holds Tryz.pinned (.plain (OpenSpec.upto verrangeTextMatchesSpecSpec)) verrangeTextMatchesSpecUptoCard

/-- THE SECOND FORM's CARD OF 'changeforgelaw5.VerrangeParsesFormatted'. -/
def verrangeParsesFormattedUptoCard : Claim7 := { stood := { row := verrangeParsesFormattedUptoRow, standIns := [], harness := (true, "56a09ddcd0c67aa3af83060698c73fdb188e74392913be346737b13c8db53e3c"), looks := true }, kinds := [], alts := [], laidByText := true, laidKinds := [.data, .data, .data, .data, .sentinel, .sentinel, .pinned], laidTests := true, laidLooks := .later }
def VerrangeParsesFormattedUptoCardSaid : Prop := Claim7.holds Tryz.pinned (.plain (OpenSpec.upto verrangeParsesFormattedSpec)) verrangeParsesFormattedUptoCard

/-- THE SECOND FORM's CARD OF 'changeforgelaw5.VerrangeOperationsAreSetOperations'. -/
def verrangeOperationsAreSetOperationsUptoCard : Claim7 := { stood := { row := verrangeOperationsAreSetOperationsUptoRow, standIns := [], harness := (true, "56a09ddcd0c67aa3af83060698c73fdb188e74392913be346737b13c8db53e3c"), looks := true }, kinds := [], alts := [], laidByText := true, laidKinds := [.data, .data, .data, .data, .sentinel, .sentinel, .pinned], laidTests := true, laidLooks := .later }
def VerrangeOperationsAreSetOperationsUptoCardSaid : Prop := Claim7.holds Tryz.pinned (.plain (OpenSpec.upto verrangeOperationsAreSetOperationsSpec)) verrangeOperationsAreSetOperationsUptoCard

/-- THE SECOND FORM's CARD OF 'changeforgelaw5.VerrangeDualityHolds'. -/
def verrangeDualityHoldsUptoCard : Claim7 := { stood := { row := verrangeDualityHoldsUptoRow, standIns := [], harness := (true, "56a09ddcd0c67aa3af83060698c73fdb188e74392913be346737b13c8db53e3c"), looks := true }, kinds := [], alts := [], laidByText := true, laidKinds := [.data, .data, .data, .data, .sentinel, .sentinel, .pinned], laidTests := true, laidLooks := .later }
def VerrangeDualityHoldsUptoCardSaid : Prop := Claim7.holds Tryz.pinned (.plain (OpenSpec.upto verrangeDualityHoldsSpec)) verrangeDualityHoldsUptoCard

/-- THE SECOND FORM's CARD OF 'changeforgelaw5.VerrangeRepresentationsAreUnique'. -/
def verrangeRepresentationsAreUniqueUptoCard : Claim7 := { stood := { row := verrangeRepresentationsAreUniqueUptoRow, standIns := [], harness := (true, "56a09ddcd0c67aa3af83060698c73fdb188e74392913be346737b13c8db53e3c"), looks := true }, kinds := [], alts := [], laidByText := true, laidKinds := [.data, .data, .data, .data, .sentinel, .sentinel, .pinned], laidTests := true, laidLooks := .later }
def VerrangeRepresentationsAreUniqueUptoCardSaid : Prop := Claim7.holds Tryz.pinned (.plain (OpenSpec.upto verrangeRepresentationsAreUniqueSpec)) verrangeRepresentationsAreUniqueUptoCard

/-- THE SECOND FORM's CARD OF 'changeforgetop.TopExactRangesContainOneVersion'. -/
def topExactRangesContainOneVersionUptoCard : Claim7 := { stood := { row := topExactRangesContainOneVersionUptoRow, standIns := [], harness := (true, "56a09ddcd0c67aa3af83060698c73fdb188e74392913be346737b13c8db53e3c"), looks := true }, kinds := [], alts := [], laidByText := true, laidKinds := [.data, .data, .data, .data, .sentinel, .sentinel, .pinned], laidTests := true, laidLooks := .later }
def TopExactRangesContainOneVersionUptoCardSaid : Prop := Claim7.holds Tryz.pinned (.plain (OpenSpec.upto topExactRangesContainOneVersionSpec)) topExactRangesContainOneVersionUptoCard
end Rows
end Go.Proofs.YtjfkmbehckdjlaaGreatDoor
