/- Contract: a version is read, by the program. -/
import Derived.Test.YthnhajihkdgifaaDoorBt
import Derived.Test.YthnhajihkdgifaaDoorBu
namespace Go.Proofs.YthnhajihkdgifaaDoor
open Go.RowKit
theorem Parse_any (s : ByteArray) (w : World) (hs : s.size ≤ 9223372036854775807) (E : Env w) :
    Calls Tryd.prog 20 #[.string s] w (RVerF (Pl.parV s) (Pl.parF s) w) := by
  by_cases h : 80 < s.size
  · exact Parse_long s w hs h
  · cases his : (Lib.cut (Pl.bsl s) [45]).2.2 with
    | false => exact Parse_false s w E (by omega) his
    | true => exact Parse_true s w E (by omega) his

end Go.Proofs.YthnhajihkdgifaaDoor
