/- The program's data space: Up, Down. -/
import Derived.Test.YtmkpoemjikdoeaaNone
import Derived.Test.YtmkpoemjikdoeaaMove
namespace Go.Proofs.Ytmkpoemjikdoeaa
open Go Go.RowKit

/-- One byte is copied. -/
def cpy (fo to : Nat) (c : List Int) (i : Nat) : List Int := c.set (to + i) (c.getD (fo + i) 0)
/-- Bytes are copied one by one, in the order of a list of places. -/
def cpys (fo to : Nat) (c : List Int) (l : List Nat) : List Int := l.foldl (cpy fo to) c
theorem cpys_snoc (fo to : Nat) (c : List Int) (l : List Nat) (i : Nat) : cpys fo to c (l ++ [i]) = cpy fo to (cpys fo to c l) i := by simp [cpys]
theorem cpy_length (fo to : Nat) (c : List Int) (i : Nat) : (cpy fo to c i).length = c.length := by simp [cpy]
theorem cpys_length (fo to : Nat) (c : List Int) (l : List Nat) : (cpys fo to c l).length = c.length := by
  induction l generalizing c with
  | nil => rfl
  | cons i l ih => exact (ih _).trans (cpy_length _ _ _ _)
theorem cpy_bytes {c : List Int} (h : Bytes c) (fo to i : Nat) : Bytes (cpy fo to c i) := by
  refine h.set _ _ ?_
  rw [List.getD_eq_getElem?_getD]
  cases hx : c[fo + i]? with
  | none => simp
  | some x => exact h x (List.mem_of_getElem? hx)
theorem cpys_bytes {c : List Int} (h : Bytes c) (fo to : Nat) (l : List Nat) : Bytes (cpys fo to c l) := by
  induction l generalizing c with
  | nil => exact h
  | cons i l ih => exact ih (cpy_bytes h _ _ _)

section
variable {p g : Nat} {bs : List Int} {dict here : Int}
/-- The row behind Up; behind Down. -/
def upB (bs : List Int) (f t n : Int) : List Int := if bothT bs.length f t n = 0 then cpys (f - 65536).toNat (t - 65536).toNat bs (List.range n.toNat) else bs
def dnB (bs : List Int) (f t n : Int) : List Int := if bothT bs.length f t n = 0 then cpys (f - 65536).toNat (t - 65536).toNat bs ((List.range n.toNat).map fun i => n.toNat - 1 - i) else bs

theorem Sp.row_ {w w' : World} (h : Sp w p g bs dict here) (hf : Fr1 g w w') (cs : List Int) (hl : cs.length = bs.length) (hb : Bytes cs) (hr : Blk w' g 5 (cells8 cs)) : Sp w' p g cs dict here :=
  ⟨by rw [hl]; exact h.obj.fr hf h.ne, hr, hb, by rw [hl]; exact h.len⟩

end

end Go.Proofs.Ytmkpoemjikdoeaa
