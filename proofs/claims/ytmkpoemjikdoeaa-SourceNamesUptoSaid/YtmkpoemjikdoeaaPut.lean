/- The program's data space: storing. -/
import Derived.Test.YtmkpoemjikdoeaaGetb
import Derived.Laws.CopyOwn
namespace Go.Proofs.Ytmkpoemjikdoeaa
open Go Go.RowKit

/-- The row bs with the bytes l from a place on. -/
def poke (bs : List Int) (off : Nat) (l : List Int) : List Int := bs.take off ++ l ++ bs.drop (off + l.length)
theorem poke_nil (bs : List Int) (off : Nat) : poke bs off [] = bs := by simp [poke]
theorem poke_length (bs : List Int) (off : Nat) (l : List Int) (h : off + l.length ≤ bs.length) : (poke bs off l).length = bs.length := by
  simp [poke]; omega
theorem poke_snoc (bs : List Int) (off : Nat) (l : List Int) (x : Int) (h : off + l.length < bs.length) : poke bs off (l ++ [x]) = (poke bs off l).set (off + l.length) x := by
  unfold poke
  have e1 : (bs.take off ++ l).length = off + l.length := by simp; omega
  rw [List.drop_eq_getElem_cons h, List.set_append_right _ _ (by omega), e1, Nat.sub_self]
  simp [List.append_assoc, Nat.add_assoc]
theorem poke_bytes {bs l : List Int} (h : Bytes bs) (hl : Bytes l) (off : Nat) : Bytes (poke bs off l) := ((h.take _).append hl).append (h.drop _)

/-- The n lowest bytes of a number, the lowest first. -/
def leB (v : Int) (n : Nat) : List Int := (List.range n).map fun i => v / 2 ^ (8 * i) % 256
theorem leB_length (v : Int) (n : Nat) : (leB v n).length = n := by simp [leB]
theorem leB_succ (v : Int) (n : Nat) : leB v (n + 1) = leB v n ++ [v / 2 ^ (8 * n) % 256] := by simp [leB, List.range_succ]
theorem leB_bytes (v : Int) (n : Nat) : Bytes (leB v n) := by
  intro x hx
  simp only [leB, List.mem_map, List.mem_range] at hx
  obtain ⟨i, _, rfl⟩ := hx
  have := Int.emod_lt_of_pos (v / 2 ^ (8 * i)) (show (0 : Int) < 256 by decide)
  have := Int.emod_nonneg (v / 2 ^ (8 * i)) (show (256 : Int) ≠ 0 by decide)
  omega

theorem Sp.poke {w : World} {p g : Nat} {bs : List Int} {dict here : Int} (h : Sp w p g bs dict here) (w' : World) (off : Nat) (l : List Int) (hl : Bytes l) (hlen : off + l.length ≤ bs.length)
    (ho : Blk w' p 68 #[.slice (some ⟨g, 0, none⟩) bs.length bs.length, .int .i64 dict, .int .i64 here]) (hr : Blk w' g 5 (cells8 (poke bs off l))) : Sp w' p g (poke bs off l) dict here := by
  have e := poke_length bs off l hlen
  exact ⟨by rw [e]; exact ho, hr, poke_bytes h.byt hl off, by rw [e]; exact h.len⟩

section
variable {p g : Nat} {bs : List Int} {dict here : Int}
/-- The row behind a store of n bytes. -/
def putB (bs : List Int) (a v n : Int) : List Int := if reachT bs.length a n (orT (alignT n a) (openT a n)) = 0 then poke bs (a - 65536).toNat (leB v n.toNat) else bs

end

end Go.Proofs.Ytmkpoemjikdoeaa
