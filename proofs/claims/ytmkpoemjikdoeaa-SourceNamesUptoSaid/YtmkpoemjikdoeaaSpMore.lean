/- The program's data space: Half, PutHalf, PutByte, Fill, SetHere, System, Heap. -/
import Derived.Test.YtmkpoemjikdoeaaClear
import Derived.Test.YtmkpoemjikdoeaaUp
import Derived.Test.YtmkpoemjikdoeaaAllot
namespace Go.Proofs.Ytmkpoemjikdoeaa
open Go Go.RowKit

section
variable {p g : Nat} {bs : List Int} {dict here : Int}
/-- What SetHere answers; HERE behind it. -/
def shT (dict a : Int) : Int := if a < 77824 ∨ 77824 + dict < a then -9 else 0
def shH (dict here a : Int) : Int := if a < 77824 ∨ 77824 + dict < a then here else a
end
end Go.Proofs.Ytmkpoemjikdoeaa
