/- The document's data space: Fetch, Store and their like. -/
import Derived.Test.YtmkpoemjikdoeaaRget
namespace Go.Proofs.Ytmkpoemjikdoeaa
open Go Go.RowKit

section
variable {w w' : World} {p g : Nat} {bs : List Int} {here last : Int}
theorem rwT_read (L : Nat) (a n k : Int) : rwT L a n k false = reachT L a n (alignT k a) := by
  unfold rwT orT
  simp only [Bool.false_eq_true, if_false]
  split
  · rename_i h; rw [h]
  · rfl
theorem rwT_write (L : Nat) (a n k : Int) : rwT L a n k true = reachT L a n (orT (alignT k a) (openT a n)) := by
  unfold rwT
  simp only [if_true]

end
end Go.Proofs.Ytmkpoemjikdoeaa
