/- The program's data space: Allot. -/
import Derived.Test.YtmkpoemjikdoeaaUp
namespace Go.Proofs.Ytmkpoemjikdoeaa
open Go Go.RowKit

/-- What Allot throws. -/
def alT (dict here n : Int) : Int := if 77824 + dict - here < n ∨ n < 77824 - here then -8 else 0
/-- HERE behind it. -/
def alH (dict here n : Int) : Int := if 77824 + dict - here < n ∨ n < 77824 - here then here else here + n

theorem Sp.here {w : World} {p g : Nat} {bs : List Int} {dict here : Int} (h : Sp w p g bs dict here) (x : Int) : Sp (w.setCell ⟨p, 2, none⟩ (.int .i64 x)) p g bs dict x :=
  ⟨by have := h.obj.set_ 2 (.int .i64 x); simpa using this, h.row.far (p := ⟨p, 2, none⟩) (Ne.symm h.ne) _, h.byt, h.len⟩
theorem Sp.drewN {w : World} {p g : Nat} {bs : List Int} {dict here : Int} (h : Sp w p g bs dict here) (n : Nat) : Sp (w.drewN n) p g bs dict here := ⟨h.obj.drewN n, h.row.drewN n, h.byt, h.len⟩

section
variable {p g : Nat} {bs : List Int} {dict here : Int}
end

end Go.Proofs.Ytmkpoemjikdoeaa
