/- Names with small letters (lists alone). -/
import Derived.Test.YtmhjnbolngdijaaLib
namespace Go.Proofs.Ytmhjnbolngdijaa
open Go Go.RowKit
set_option linter.unusedVariables false

/-- A name with small letters. -/
def low (b : Int) : Int := if 65 ≤ b ∧ b ≤ 90 then b + 32 else b
def lowL (l : List Int) : List Int := l.map low
/-- The first j bytes folded. -/
def mixL (l : List Int) (j : Nat) : List Int := lowL (l.take j) ++ l.drop j
theorem mixL_len (l : List Int) (j : Nat) (hj : j ≤ l.length) : (mixL l j).length = l.length := by simp [mixL, lowL]; omega
theorem mixL_at (l : List Int) (j : Nat) {x : Int} (hx : l[j]? = some x) : (mixL l j)[j]? = some x := by
  have hj := (List.getElem?_eq_some_iff.1 hx).1
  unfold mixL
  have hl : (lowL (l.take j)).length = j := by simp [lowL]; omega
  rw [List.getElem?_append_right (by omega), hl, List.getElem?_drop, Nat.sub_self, Nat.add_zero]
  exact hx
theorem mixL_set (l : List Int) (j : Nat) {x : Int} (hx : l[j]? = some x) : (mixL l j).set j (low x) = mixL l (j + 1) := by
  have hj := (List.getElem?_eq_some_iff.1 hx).1
  have hl : (lowL (l.take j)).length = j := by simp [lowL]; omega
  unfold mixL
  rw [List.set_append_right _ _ (by omega), hl, Nat.sub_self, List.drop_eq_getElem_cons hj, List.set_cons_zero]
  have e : l[j] = x := by
    rw [List.getElem?_eq_getElem hj] at hx
    injection hx
  rw [List.take_succ_eq_append_getElem hj, e]
  simp [lowL]
theorem mixL_keep (l : List Int) (j : Nat) {x : Int} (hx : l[j]? = some x) (h : low x = x) : mixL l j = mixL l (j + 1) := by
  rw [← mixL_set l j hx, h]
  apply List.ext_getElem?
  intro i
  rw [List.getElem?_set]
  by_cases hi : j = i
  · subst hi
    have hj := (List.getElem?_eq_some_iff.1 hx).1
    rw [if_pos rfl, if_pos (by rw [mixL_len _ _ (by omega)]; exact hj), mixL_at l j hx]
  · rw [if_neg hi]
theorem mixL_all (l : List Int) : mixL l l.length = lowL l := by simp [mixL]
theorem mixL_none (l : List Int) : mixL l 0 = l := by simp [mixL, lowL]
theorem low_bytes {l : List Int} (hb : ∀ x ∈ l, 0 ≤ x ∧ x ≤ 255) : ∀ x ∈ lowL l, 0 ≤ x ∧ x ≤ 255 := fun x hx => by
  obtain ⟨y, hy, rfl⟩ := List.mem_map.1 hx
  have := hb y hy
  unfold low
  split <;> omega

end Go.Proofs.Ytmhjnbolngdijaa
