/- Contract: the check of a pushed certificate, whatever is handed in. -/
import Derived.Test.YtkhkijpkgogncaaUg
import Derived.Test.YtkhkijpkgogncaaUj
import Derived.Test.YtkhkijpkgogncaaUk
namespace Go.Proofs.Ytkhkijpkgogncaa
open Go.RowKit

theorem Check_any (secret now window : Int) (xs : List Int) (c : Pl.Cert) (oa : Option Addr) (cap : Nat) (w : World) (hs : Sl w oa xs.length cap 1 (intVals xs)) (hm : xs.length ≤ 9223372036854775807) :
    Calls Try.prog 26 #[.int .i64 secret, .int .i64 now, .int .i64 window, .slice oa xs.length cap, .agg (certCells c).toArray] w (RIntsF 3 (Pl.pushV secret now window xs c) (Pl.pushF secret now window xs c) w) := by
  obtain ⟨n, t, ky, rf, o, nw, s⟩ := c
  have early := Check_early secret now window xs n t ky rf o nw s oa cap w hs hm
  rcases Pl.certF_cases ⟨n, t, ky, rf, o, nw, s⟩ with ⟨hF, hB, _, _⟩ | h
  · cases hd : Pl.isDigestB s with
    | false => exact early (.inr (.inl hd))
    | true =>
      cases hk : Pl.isKeyB secret with
      | false => exact early (.inr (.inr (.inl hk)))
      | true =>
        cases h1 : Pl.isTimeB now with
        | false => exact early (.inr (.inr (.inr (.inl h1))))
        | true =>
          cases h2 : Pl.isTimeB window with
          | false => exact early (.inr (.inr (.inr (.inr (.inl h2)))))
          | true =>
            rcases Pl.usedC_cases xs with ⟨hu, hus⟩ | h
            · clear early
              cases c1 : decide (now < t) with
              | true => exact Check_new secret now window xs n t ky rf o nw s oa cap w hs hm hF hd hk h1 h2 hB hu hus c1
              | false =>
                cases c2 : decide (t < now - window) with
                | true => exact Check_old secret now window xs n t ky rf o nw s oa cap w hs hm hF hd hk h1 h2 hB hu hus c1 c2
                | false =>
                  by_cases c3 : n = Pl.nonceS secret t
                  · by_cases c4 : s = Pl.certS ⟨n, t, ky, rf, o, nw, s⟩
                    · cases c5 : xs.contains n with
                      | true => exact Check_used secret now window xs n t ky rf o nw s oa cap w hs hm hF hd hk h1 h2 hB hu hus c1 c2 c3 c4 c5
                      | false =>
                        by_cases c6 : xs.length = 40
                        · exact Check_full secret now window xs n t ky rf o nw s oa cap w hs hm hF hd hk h1 h2 hB hu hus c1 c2 c3 c4 c5 c6
                        · exact Check_ok secret now window xs n t ky rf o nw s oa cap w hs hm hF hd hk h1 h2 hB hu hus c1 c2 c3 c4 c5 c6
                    · exact Check_sig secret now window xs n t ky rf o nw s oa cap w hs hm hF hd hk h1 h2 hB hu hus c1 c2 c3 c4
                  · exact Check_nonce secret now window xs n t ky rf o nw s oa cap w hs hm hF hd hk h1 h2 hB hu hus c1 c2 c3
            · exact early (.inr (.inr (.inr (.inr (.inr h)))))
  · exact early (.inl h)
end Go.Proofs.Ytkhkijpkgogncaa
