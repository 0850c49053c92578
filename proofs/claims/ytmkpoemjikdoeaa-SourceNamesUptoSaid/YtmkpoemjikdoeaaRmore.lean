/- The document's data space: Bytes, Put, Fill, both. -/
import Derived.Test.YtmkpoemjikdoeaaRops
import Derived.Test.YtmkpoemjikdoeaaSpFill
import Derived.Test.YtmkpoemjikdoeaaSame
namespace Go.Proofs.Ytmkpoemjikdoeaa
open Go Go.RowKit

section
variable {p g : Nat} {bs : List Int} {here last : Int}
theorem rwT_bytes (L : Nat) (a n : Int) : rwT L a n 1 false = reachT L a n 0 := by rw [rwT_read, alignT_one]
theorem rwT_put (L : Nat) (a n : Int) : rwT L a n 1 true = putT L a n := by
  rw [rwT_write, alignT_one]
  unfold putT orT
  rw [if_pos rfl]
/-- The bytes at a place, as a row. -/
theorem RSp.sub {w : World} (h : RSp w p g bs here last) {off n : Nat} (hi : off + n ≤ bs.length) (c : Nat) (hc : n ≤ c) (hc2 : c ≤ 9223372036854775807) : Row8 w w.heap.size (.slice (some ⟨g, off, none⟩) n c) ((bs.drop off).take n) := by
  have hl : ((bs.drop off).take n).length = n := by simp; omega
  refine ⟨some ⟨g, off, none⟩, c, by rw [hl], by omega, ⟨hc2, by omega⟩, (h.byt.drop _).take _, fun _ => ⟨g, off, rfl, h.row.lt, fun j x hx => ?_⟩⟩
  rw [h.row.cell, cells8_at]
  rw [List.getElem?_take] at hx
  split at hx
  · rw [List.getElem?_drop] at hx; rw [hx]; rfl
  · cases hx

end
end Go.Proofs.Ytmkpoemjikdoeaa
