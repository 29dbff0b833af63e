/-
  No cell of these rows narrows 'for every input' (looked for: loops, veiled, ifaces, maps, wideKeys, modest, calm, conditions, laid).
  DERIVED. THE GIVEN ROWS OF THIS SEAT. 10 by the template 'for every input the law returns true; each argument reads behind the call as it read before'; 0 by the template 'total and deterministic' (their statements: YtbbjniahaogdnaaTotals.lean).
  GIVEN WITH THE SEED: the statements are not yours to turn. If you find one false, say at which input.
  Laid BY PROGRAM, IN A SANDBOX (cutbox-rows.mjs): the forced cells as the released guide's own fill.sh prints them over the translation 8fbcd9e00e30226a… (all of the seat's roots in one cut). By AI agents, Wed Nov 11 2026. No macro, syntax, notation, axiom, sorry.
-/
import Derived.Test.YtbbjniahaogdnaaChecked
import GoSem.Claim
import GoSem.ClaimJoined
import GoSem.ClaimMapViews
import Derived.JoinedTies
import Derived.KernelRfl
namespace Go.Proofs.Ytbbjniahaogdnaa
/- THE CELL 'sum', in the pinned program and in every row, IS THE sha256 OF THE DUMP (.gsa) THAT YtbbjniahaogdnaaProg.lean LOADS. Nothing in Lean hashes anything: it is a label: what it is worth is what the hold of that sum in a sandbox is worth. -/
noncomputable def Try.pinned : Pinned := { name := "ytbbjniahaogdnaa", sum := "8fbcd9e00e30226a4db16254027e0bb448e4f07583063aeb8e91bd754d987fbc", checked := Try.checked }
namespace Rows
def none {H : Type} : Left H := { results := [], args := [] }

/-- 'changeforgelaw5.SigningMatchesSpec': WHATEVER THE INPUT: true; the input reads as it did. -/
def signingMatchesSpecSpec : ChangeSpec := { name := "signingMatchesSpec", fn := fun _ => fun
  | [d1, d2, d3] => { results := [.lit (.bool true)], args := [d1, d2, d3] }
  | _ => none }
def signingMatchesSpecRow : OpenClaim := { program := "ytbbjniahaogdnaa", sum := "8fbcd9e00e30226a4db16254027e0bb448e4f07583063aeb8e91bd754d987fbc", func := "changeforge/changeforgelaw5.SigningMatchesSpec", spec := "signingMatchesSpec", apart := false }
def SigningMatchesSpecSaid : Prop := signingMatchesSpecRow.holds Try.pinned (OpenSpec.ofChange signingMatchesSpecSpec)

/-- ITS FALSE NEIGHBOUR: 'it returns false'. Refute it at one input. -/
def signingMatchesSpecWrong : ChangeSpec := { name := "signingMatchesSpec", fn := fun _ => fun
  | [d1, d2, d3] => { results := [.lit (.bool false)], args := [d1, d2, d3] }
  | _ => none }
def SigningMatchesSpecWrongFalsely : Prop := signingMatchesSpecRow.holds Try.pinned (OpenSpec.ofChange signingMatchesSpecWrong)

/-- 'changeforgelaw5.SigningVerifyMatchesSpec': WHATEVER THE INPUT: true; the input reads as it did. -/
def signingVerifyMatchesSpecSpec : ChangeSpec := { name := "signingVerifyMatchesSpec", fn := fun _ => fun
  | [d1, d2, d3] => { results := [.lit (.bool true)], args := [d1, d2, d3] }
  | _ => none }
def signingVerifyMatchesSpecRow : OpenClaim := { program := "ytbbjniahaogdnaa", sum := "8fbcd9e00e30226a4db16254027e0bb448e4f07583063aeb8e91bd754d987fbc", func := "changeforge/changeforgelaw5.SigningVerifyMatchesSpec", spec := "signingVerifyMatchesSpec", apart := false }
def SigningVerifyMatchesSpecSaid : Prop := signingVerifyMatchesSpecRow.holds Try.pinned (OpenSpec.ofChange signingVerifyMatchesSpecSpec)

/-- ITS FALSE NEIGHBOUR: 'it returns false'. Refute it at one input. -/
def signingVerifyMatchesSpecWrong : ChangeSpec := { name := "signingVerifyMatchesSpec", fn := fun _ => fun
  | [d1, d2, d3] => { results := [.lit (.bool false)], args := [d1, d2, d3] }
  | _ => none }
def SigningVerifyMatchesSpecWrongFalsely : Prop := signingVerifyMatchesSpecRow.holds Try.pinned (OpenSpec.ofChange signingVerifyMatchesSpecWrong)

/-- 'changeforgelaw5.SigningSignaturesVerify': WHATEVER THE INPUT: true; the input reads as it did. -/
def signingSignaturesVerifySpec : ChangeSpec := { name := "signingSignaturesVerify", fn := fun _ => fun
  | [d1, d2, d3] => { results := [.lit (.bool true)], args := [d1, d2, d3] }
  | _ => none }
def signingSignaturesVerifyRow : OpenClaim := { program := "ytbbjniahaogdnaa", sum := "8fbcd9e00e30226a4db16254027e0bb448e4f07583063aeb8e91bd754d987fbc", func := "changeforge/changeforgelaw5.SigningSignaturesVerify", spec := "signingSignaturesVerify", apart := false }
def SigningSignaturesVerifySaid : Prop := signingSignaturesVerifyRow.holds Try.pinned (OpenSpec.ofChange signingSignaturesVerifySpec)

/-- ITS FALSE NEIGHBOUR: 'it returns false'. Refute it at one input. -/
def signingSignaturesVerifyWrong : ChangeSpec := { name := "signingSignaturesVerify", fn := fun _ => fun
  | [d1, d2, d3] => { results := [.lit (.bool false)], args := [d1, d2, d3] }
  | _ => none }
def SigningSignaturesVerifyWrongFalsely : Prop := signingSignaturesVerifyRow.holds Try.pinned (OpenSpec.ofChange signingSignaturesVerifyWrong)

/-- 'changeforgelaw5.SigningMessageIsInjective': WHATEVER THE INPUT: true; the input reads as it did. -/
def signingMessageIsInjectiveSpec : ChangeSpec := { name := "signingMessageIsInjective", fn := fun _ => fun
  | [d1, d2] => { results := [.lit (.bool true)], args := [d1, d2] }
  | _ => none }
def signingMessageIsInjectiveRow : OpenClaim := { program := "ytbbjniahaogdnaa", sum := "8fbcd9e00e30226a4db16254027e0bb448e4f07583063aeb8e91bd754d987fbc", func := "changeforge/changeforgelaw5.SigningMessageIsInjective", spec := "signingMessageIsInjective", apart := false }
def SigningMessageIsInjectiveSaid : Prop := signingMessageIsInjectiveRow.holds Try.pinned (OpenSpec.ofChange signingMessageIsInjectiveSpec)

/-- ITS FALSE NEIGHBOUR: 'it returns false'. Refute it at one input. -/
def signingMessageIsInjectiveWrong : ChangeSpec := { name := "signingMessageIsInjective", fn := fun _ => fun
  | [d1, d2] => { results := [.lit (.bool false)], args := [d1, d2] }
  | _ => none }
def SigningMessageIsInjectiveWrongFalsely : Prop := signingMessageIsInjectiveRow.holds Try.pinned (OpenSpec.ofChange signingMessageIsInjectiveWrong)

/-- 'changeforgelaw5.SigningKeysAreDistinguished': WHATEVER THE INPUT: true; the input reads as it did. -/
def signingKeysAreDistinguishedSpec : ChangeSpec := { name := "signingKeysAreDistinguished", fn := fun _ => fun
  | [d1, d2, d3] => { results := [.lit (.bool true)], args := [d1, d2, d3] }
  | _ => none }
def signingKeysAreDistinguishedRow : OpenClaim := { program := "ytbbjniahaogdnaa", sum := "8fbcd9e00e30226a4db16254027e0bb448e4f07583063aeb8e91bd754d987fbc", func := "changeforge/changeforgelaw5.SigningKeysAreDistinguished", spec := "signingKeysAreDistinguished", apart := false }
def SigningKeysAreDistinguishedSaid : Prop := signingKeysAreDistinguishedRow.holds Try.pinned (OpenSpec.ofChange signingKeysAreDistinguishedSpec)

/-- ITS FALSE NEIGHBOUR: 'it returns false'. Refute it at one input. -/
def signingKeysAreDistinguishedWrong : ChangeSpec := { name := "signingKeysAreDistinguished", fn := fun _ => fun
  | [d1, d2, d3] => { results := [.lit (.bool false)], args := [d1, d2, d3] }
  | _ => none }
def SigningKeysAreDistinguishedWrongFalsely : Prop := signingKeysAreDistinguishedRow.holds Try.pinned (OpenSpec.ofChange signingKeysAreDistinguishedWrong)

/-- 'changeforgelaw5.ThresholdMatchesSpec': WHATEVER THE INPUT: true; the input reads as it did. -/
def thresholdMatchesSpecSpec : ChangeSpec := { name := "thresholdMatchesSpec", fn := fun _ => fun
  | [d1, d2, d3, d4] => { results := [.lit (.bool true)], args := [d1, d2, d3, d4] }
  | _ => none }
def thresholdMatchesSpecRow : OpenClaim := { program := "ytbbjniahaogdnaa", sum := "8fbcd9e00e30226a4db16254027e0bb448e4f07583063aeb8e91bd754d987fbc", func := "changeforge/changeforgelaw5.ThresholdMatchesSpec", spec := "thresholdMatchesSpec", apart := false }
def ThresholdMatchesSpecSaid : Prop := thresholdMatchesSpecRow.holds Try.pinned (OpenSpec.ofChange thresholdMatchesSpecSpec)

/-- ITS FALSE NEIGHBOUR: 'it returns false'. Refute it at one input. -/
def thresholdMatchesSpecWrong : ChangeSpec := { name := "thresholdMatchesSpec", fn := fun _ => fun
  | [d1, d2, d3, d4] => { results := [.lit (.bool false)], args := [d1, d2, d3, d4] }
  | _ => none }
def ThresholdMatchesSpecWrongFalsely : Prop := thresholdMatchesSpecRow.holds Try.pinned (OpenSpec.ofChange thresholdMatchesSpecWrong)

/-- 'changeforgelaw5.ThresholdIsMonotone': WHATEVER THE INPUT: true; the input reads as it did. -/
def thresholdIsMonotoneSpec : ChangeSpec := { name := "thresholdIsMonotone", fn := fun _ => fun
  | [d1, d2, d3, d4, d5, d6] => { results := [.lit (.bool true)], args := [d1, d2, d3, d4, d5, d6] }
  | _ => none }
def thresholdIsMonotoneRow : OpenClaim := { program := "ytbbjniahaogdnaa", sum := "8fbcd9e00e30226a4db16254027e0bb448e4f07583063aeb8e91bd754d987fbc", func := "changeforge/changeforgelaw5.ThresholdIsMonotone", spec := "thresholdIsMonotone", apart := false }
def ThresholdIsMonotoneSaid : Prop := thresholdIsMonotoneRow.holds Try.pinned (OpenSpec.ofChange thresholdIsMonotoneSpec)

/-- ITS FALSE NEIGHBOUR: 'it returns false'. Refute it at one input. -/
def thresholdIsMonotoneWrong : ChangeSpec := { name := "thresholdIsMonotone", fn := fun _ => fun
  | [d1, d2, d3, d4, d5, d6] => { results := [.lit (.bool false)], args := [d1, d2, d3, d4, d5, d6] }
  | _ => none }
def ThresholdIsMonotoneWrongFalsely : Prop := thresholdIsMonotoneRow.holds Try.pinned (OpenSpec.ofChange thresholdIsMonotoneWrong)

/-- 'changeforgelaw5.ThresholdIgnoresOrderAndRepetition': WHATEVER THE INPUT: true; the input reads as it did. -/
def thresholdIgnoresOrderAndRepetitionSpec : ChangeSpec := { name := "thresholdIgnoresOrderAndRepetition", fn := fun _ => fun
  | [d1, d2, d3, d4] => { results := [.lit (.bool true)], args := [d1, d2, d3, d4] }
  | _ => none }
def thresholdIgnoresOrderAndRepetitionRow : OpenClaim := { program := "ytbbjniahaogdnaa", sum := "8fbcd9e00e30226a4db16254027e0bb448e4f07583063aeb8e91bd754d987fbc", func := "changeforge/changeforgelaw5.ThresholdIgnoresOrderAndRepetition", spec := "thresholdIgnoresOrderAndRepetition", apart := false }
def ThresholdIgnoresOrderAndRepetitionSaid : Prop := thresholdIgnoresOrderAndRepetitionRow.holds Try.pinned (OpenSpec.ofChange thresholdIgnoresOrderAndRepetitionSpec)

/-- ITS FALSE NEIGHBOUR: 'it returns false'. Refute it at one input. -/
def thresholdIgnoresOrderAndRepetitionWrong : ChangeSpec := { name := "thresholdIgnoresOrderAndRepetition", fn := fun _ => fun
  | [d1, d2, d3, d4] => { results := [.lit (.bool false)], args := [d1, d2, d3, d4] }
  | _ => none }
def ThresholdIgnoresOrderAndRepetitionWrongFalsely : Prop := thresholdIgnoresOrderAndRepetitionRow.holds Try.pinned (OpenSpec.ofChange thresholdIgnoresOrderAndRepetitionWrong)

/-- 'changeforgelaw5.ThresholdSignersSuffice': WHATEVER THE INPUT: true; the input reads as it did. -/
def thresholdSignersSufficeSpec : ChangeSpec := { name := "thresholdSignersSuffice", fn := fun _ => fun
  | [d1, d2, d3, d4] => { results := [.lit (.bool true)], args := [d1, d2, d3, d4] }
  | _ => none }
def thresholdSignersSufficeRow : OpenClaim := { program := "ytbbjniahaogdnaa", sum := "8fbcd9e00e30226a4db16254027e0bb448e4f07583063aeb8e91bd754d987fbc", func := "changeforge/changeforgelaw5.ThresholdSignersSuffice", spec := "thresholdSignersSuffice", apart := false }
def ThresholdSignersSufficeSaid : Prop := thresholdSignersSufficeRow.holds Try.pinned (OpenSpec.ofChange thresholdSignersSufficeSpec)

/-- ITS FALSE NEIGHBOUR: 'it returns false'. Refute it at one input. -/
def thresholdSignersSufficeWrong : ChangeSpec := { name := "thresholdSignersSuffice", fn := fun _ => fun
  | [d1, d2, d3, d4] => { results := [.lit (.bool false)], args := [d1, d2, d3, d4] }
  | _ => none }
def ThresholdSignersSufficeWrongFalsely : Prop := thresholdSignersSufficeRow.holds Try.pinned (OpenSpec.ofChange thresholdSignersSufficeWrong)

/-- 'changeforgelaw5.ThresholdSignersAreKeys': WHATEVER THE INPUT: true; the input reads as it did. -/
def thresholdSignersAreKeysSpec : ChangeSpec := { name := "thresholdSignersAreKeys", fn := fun _ => fun
  | [d1, d2, d3] => { results := [.lit (.bool true)], args := [d1, d2, d3] }
  | _ => none }
def thresholdSignersAreKeysRow : OpenClaim := { program := "ytbbjniahaogdnaa", sum := "8fbcd9e00e30226a4db16254027e0bb448e4f07583063aeb8e91bd754d987fbc", func := "changeforge/changeforgelaw5.ThresholdSignersAreKeys", spec := "thresholdSignersAreKeys", apart := false }
def ThresholdSignersAreKeysSaid : Prop := thresholdSignersAreKeysRow.holds Try.pinned (OpenSpec.ofChange thresholdSignersAreKeysSpec)

/-- ITS FALSE NEIGHBOUR: 'it returns false'. Refute it at one input. -/
def thresholdSignersAreKeysWrong : ChangeSpec := { name := "thresholdSignersAreKeys", fn := fun _ => fun
  | [d1, d2, d3] => { results := [.lit (.bool false)], args := [d1, d2, d3] }
  | _ => none }
def ThresholdSignersAreKeysWrongFalsely : Prop := thresholdSignersAreKeysRow.holds Try.pinned (OpenSpec.ofChange thresholdSignersAreKeysWrong)

/- THE SECOND FORM. 'bulk': how many values and letters a reading holds, each counted each time it is reached (what is shared counts as often as it is met; a slice's spare places count too). A statement '..UptoSaid' is the law's where the arguments, and the package variables that the reading takes, are together of bulk at most 1048576: NARROWER than '..Said'. Prove '..Said' where nothing that the law and all that it calls make is longer than what came in: it says more and counts as full. Else prove '..UptoSaid'. A law counts once. -/
mutual
def uptoBulk {H : Type} : DataW H → Nat
  | .lit (.string bytes) => bytes.length + 1
  | .lit _ => 1
  | .nil => 1
  | .ptr d => uptoBulk d + 1
  | .slice elems spare => uptoBulkAll elems + uptoBulkAll spare + 1
  | .agg parts => uptoBulkAll parts + 1
  | .iface _ d => uptoBulk d + 1
  | .map entries => uptoBulkEntries entries + 1
  | .held _ => 1
def uptoBulkAll {H : Type} : List (DataW H) → Nat
  | [] => 0
  | d :: r => uptoBulk d + uptoBulkAll r
def uptoBulkEntries {H : Type} : List (Lit × DataW H) → Nat
  | [] => 0
  | x :: r => uptoBulkEntry x + uptoBulkEntries r
def uptoBulkEntry {H : Type} : Lit × DataW H → Nat
  | (.string bytes, d) => bytes.length + uptoBulk d + 1
  | (_, d) => uptoBulk d + 1
 end
def uptoSmall : (H : Type) → List (DataW H) → Bool := fun _ ds => decide (uptoBulkAll ds ≤ 1048576)
def OpenSpec.upto (s : _root_.Go.ChangeSpec) : _root_.Go.OpenSpec := { _root_.Go.OpenSpec.ofChange s with cond := some uptoSmall }

/-- 'changeforgelaw5.SigningMatchesSpec', WHERE WHAT IT READS IS OF BULK AT MOST 1048576: true; the input reads as it did. -/
def signingMatchesSpecUptoRow : OpenClaim := { program := "ytbbjniahaogdnaa", sum := "8fbcd9e00e30226a4db16254027e0bb448e4f07583063aeb8e91bd754d987fbc", func := "changeforge/changeforgelaw5.SigningMatchesSpec", spec := "signingMatchesSpec", apart := false, narrowed := true }
def SigningMatchesSpecUptoSaid : Prop := signingMatchesSpecUptoRow.holds Try.pinned (OpenSpec.upto signingMatchesSpecSpec)

/-- 'changeforgelaw5.SigningVerifyMatchesSpec', WHERE WHAT IT READS IS OF BULK AT MOST 1048576: true; the input reads as it did. -/
def signingVerifyMatchesSpecUptoRow : OpenClaim := { program := "ytbbjniahaogdnaa", sum := "8fbcd9e00e30226a4db16254027e0bb448e4f07583063aeb8e91bd754d987fbc", func := "changeforge/changeforgelaw5.SigningVerifyMatchesSpec", spec := "signingVerifyMatchesSpec", apart := false, narrowed := true }
def SigningVerifyMatchesSpecUptoSaid : Prop := signingVerifyMatchesSpecUptoRow.holds Try.pinned (OpenSpec.upto signingVerifyMatchesSpecSpec)

/-- 'changeforgelaw5.SigningSignaturesVerify', WHERE WHAT IT READS IS OF BULK AT MOST 1048576: true; the input reads as it did. -/
def signingSignaturesVerifyUptoRow : OpenClaim := { program := "ytbbjniahaogdnaa", sum := "8fbcd9e00e30226a4db16254027e0bb448e4f07583063aeb8e91bd754d987fbc", func := "changeforge/changeforgelaw5.SigningSignaturesVerify", spec := "signingSignaturesVerify", apart := false, narrowed := true }
def SigningSignaturesVerifyUptoSaid : Prop := signingSignaturesVerifyUptoRow.holds Try.pinned (OpenSpec.upto signingSignaturesVerifySpec)

/-- 'changeforgelaw5.SigningMessageIsInjective', WHERE WHAT IT READS IS OF BULK AT MOST 1048576: true; the input reads as it did. -/
def signingMessageIsInjectiveUptoRow : OpenClaim := { program := "ytbbjniahaogdnaa", sum := "8fbcd9e00e30226a4db16254027e0bb448e4f07583063aeb8e91bd754d987fbc", func := "changeforge/changeforgelaw5.SigningMessageIsInjective", spec := "signingMessageIsInjective", apart := false, narrowed := true }
def SigningMessageIsInjectiveUptoSaid : Prop := signingMessageIsInjectiveUptoRow.holds Try.pinned (OpenSpec.upto signingMessageIsInjectiveSpec)

/-- 'changeforgelaw5.SigningKeysAreDistinguished', WHERE WHAT IT READS IS OF BULK AT MOST 1048576: true; the input reads as it did. -/
def signingKeysAreDistinguishedUptoRow : OpenClaim := { program := "ytbbjniahaogdnaa", sum := "8fbcd9e00e30226a4db16254027e0bb448e4f07583063aeb8e91bd754d987fbc", func := "changeforge/changeforgelaw5.SigningKeysAreDistinguished", spec := "signingKeysAreDistinguished", apart := false, narrowed := true }
def SigningKeysAreDistinguishedUptoSaid : Prop := signingKeysAreDistinguishedUptoRow.holds Try.pinned (OpenSpec.upto signingKeysAreDistinguishedSpec)

/-- 'changeforgelaw5.ThresholdMatchesSpec', WHERE WHAT IT READS IS OF BULK AT MOST 1048576: true; the input reads as it did. -/
def thresholdMatchesSpecUptoRow : OpenClaim := { program := "ytbbjniahaogdnaa", sum := "8fbcd9e00e30226a4db16254027e0bb448e4f07583063aeb8e91bd754d987fbc", func := "changeforge/changeforgelaw5.ThresholdMatchesSpec", spec := "thresholdMatchesSpec", apart := false, narrowed := true }
def ThresholdMatchesSpecUptoSaid : Prop := thresholdMatchesSpecUptoRow.holds Try.pinned (OpenSpec.upto thresholdMatchesSpecSpec)

/-- 'changeforgelaw5.ThresholdIsMonotone', WHERE WHAT IT READS IS OF BULK AT MOST 1048576: true; the input reads as it did. -/
def thresholdIsMonotoneUptoRow : OpenClaim := { program := "ytbbjniahaogdnaa", sum := "8fbcd9e00e30226a4db16254027e0bb448e4f07583063aeb8e91bd754d987fbc", func := "changeforge/changeforgelaw5.ThresholdIsMonotone", spec := "thresholdIsMonotone", apart := false, narrowed := true }
def ThresholdIsMonotoneUptoSaid : Prop := thresholdIsMonotoneUptoRow.holds Try.pinned (OpenSpec.upto thresholdIsMonotoneSpec)

/-- 'changeforgelaw5.ThresholdIgnoresOrderAndRepetition', WHERE WHAT IT READS IS OF BULK AT MOST 1048576: true; the input reads as it did. -/
def thresholdIgnoresOrderAndRepetitionUptoRow : OpenClaim := { program := "ytbbjniahaogdnaa", sum := "8fbcd9e00e30226a4db16254027e0bb448e4f07583063aeb8e91bd754d987fbc", func := "changeforge/changeforgelaw5.ThresholdIgnoresOrderAndRepetition", spec := "thresholdIgnoresOrderAndRepetition", apart := false, narrowed := true }
def ThresholdIgnoresOrderAndRepetitionUptoSaid : Prop := thresholdIgnoresOrderAndRepetitionUptoRow.holds Try.pinned (OpenSpec.upto thresholdIgnoresOrderAndRepetitionSpec)

/-- 'changeforgelaw5.ThresholdSignersSuffice', WHERE WHAT IT READS IS OF BULK AT MOST 1048576: true; the input reads as it did. -/
def thresholdSignersSufficeUptoRow : OpenClaim := { program := "ytbbjniahaogdnaa", sum := "8fbcd9e00e30226a4db16254027e0bb448e4f07583063aeb8e91bd754d987fbc", func := "changeforge/changeforgelaw5.ThresholdSignersSuffice", spec := "thresholdSignersSuffice", apart := false, narrowed := true }
def ThresholdSignersSufficeUptoSaid : Prop := thresholdSignersSufficeUptoRow.holds Try.pinned (OpenSpec.upto thresholdSignersSufficeSpec)

/-- 'changeforgelaw5.ThresholdSignersAreKeys', WHERE WHAT IT READS IS OF BULK AT MOST 1048576: true; the input reads as it did. -/
def thresholdSignersAreKeysUptoRow : OpenClaim := { program := "ytbbjniahaogdnaa", sum := "8fbcd9e00e30226a4db16254027e0bb448e4f07583063aeb8e91bd754d987fbc", func := "changeforge/changeforgelaw5.ThresholdSignersAreKeys", spec := "thresholdSignersAreKeys", apart := false, narrowed := true }
def ThresholdSignersAreKeysUptoSaid : Prop := thresholdSignersAreKeysUptoRow.holds Try.pinned (OpenSpec.upto thresholdSignersAreKeysSpec)

end Rows
end Go.Proofs.Ytbbjniahaogdnaa
