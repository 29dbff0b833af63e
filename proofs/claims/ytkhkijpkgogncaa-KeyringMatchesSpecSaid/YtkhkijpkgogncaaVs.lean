/- The law KeyringMatchesSpec returns true. -/
import Derived.Test.YtkhkijpkgogncaaVq
import Derived.Test.YtkhkijpkgogncaaVr
namespace Go.Proofs.Ytkhkijpkgogncaa
open Go.RowKit

theorem KeyringMatchesSpec_main (l : List Pl.Ev) (k t u : Int) (oa : Option Addr) (cap : Nat) (w : World) (hs : Sl w oa l.length cap 4 (quadVals l)) (hm : l.length ≤ 9223372036854775807) (hw : ∀ e ∈ l, (Lit.int .i64 e.key).wf = true) :
    Calls Try.prog 9 #[.slice oa l.length cap, .int .i64 k, .int .i64 t, .int .i64 u] w fun e w' => e = .returned (.bool true) ∧ Below w.heap.size w w' := by
  rcases Pl.krF_cases l with ⟨hb, h40, hv⟩ | hb
  · skip
    cases hk : Pl.isKeyB k with
    | false =>
      cases ht : Pl.inB t 0 100000 with
      | false =>
        cases hu : Pl.inB u 0 7 with
        | false =>
          exact KeyringMatchesSpec_g0000 l k t u oa cap w hs hm hw hb h40 hv hk ht hu
        | true =>
          exact KeyringMatchesSpec_g0001 l k t u oa cap w hs hm hw hb h40 hv hk ht hu
      | true =>
        cases hu : Pl.inB u 0 7 with
        | false =>
          exact KeyringMatchesSpec_g0100 l k t u oa cap w hs hm hw hb h40 hv hk ht hu
        | true =>
          exact KeyringMatchesSpec_g0101 l k t u oa cap w hs hm hw hb h40 hv hk ht hu
    | true =>
      cases ht : Pl.inB t 0 100000 with
      | false =>
        by_cases ha : 0 ≤ Pl.keyTime l k 1
        · skip
          cases hu : Pl.inB u 0 7 with
          | false =>
            exact KeyringMatchesSpec_g1010 l k t u oa cap w hs hm hw hb h40 hv hk ht hu ha
          | true =>
            exact KeyringMatchesSpec_g1011 l k t u oa cap w hs hm hw hb h40 hv hk ht hu ha
        · skip
          cases hu : Pl.inB u 0 7 with
          | false =>
            exact KeyringMatchesSpec_g1000 l k t u oa cap w hs hm hw hb h40 hv hk ht hu ha
          | true =>
            exact KeyringMatchesSpec_g1001 l k t u oa cap w hs hm hw hb h40 hv hk ht hu ha
      | true =>
        by_cases ha : 0 ≤ Pl.keyTime l k 1
        · skip
          cases hu : Pl.inB u 0 7 with
          | false =>
            exact KeyringMatchesSpec_g1110 l k t u oa cap w hs hm hw hb h40 hv hk ht hu ha
          | true =>
            exact KeyringMatchesSpec_g1111 l k t u oa cap w hs hm hw hb h40 hv hk ht hu ha
        · skip
          cases hu : Pl.inB u 0 7 with
          | false =>
            exact KeyringMatchesSpec_g1100 l k t u oa cap w hs hm hw hb h40 hv hk ht hu ha
          | true =>
            exact KeyringMatchesSpec_g1101 l k t u oa cap w hs hm hw hb h40 hv hk ht hu ha
  · exact KeyringMatchesSpec_bad l k t u oa cap w hs hm hw hb
end Go.Proofs.Ytkhkijpkgogncaa
