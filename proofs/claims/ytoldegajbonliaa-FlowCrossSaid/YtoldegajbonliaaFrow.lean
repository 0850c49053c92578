/- Rows of structs, each laid in so many cells. -/
import Derived.Test.YtoldegajbonliaaGrow2
import Derived.Test.YtoldegajbonliaaPost
import Derived.Test.YtoldegajbonliaaChecked
namespace Go.Proofs.Ytoldegajbonliaa
open Go Go.RowKit
set_option linter.unusedVariables false

section
variable {α : Type} {cells : α → List Value} {z : Nat}
theorem flatZ_at (hz : ∀ x, (cells x).length = z) {l : List α} {i j : Nat} {x : α} (hi : l[i]? = some x) (hj : j < z) : (l.flatMap cells)[i * z + j]? = (cells x)[j]? := by
  induction l generalizing i with
  | nil => simp at hi
  | cons a l ih =>
    rw [List.flatMap_cons]
    have hl := hz a
    cases i with
    | zero =>
      simp at hi
      subst hi
      rw [List.getElem?_append_left (by rw [hl]; omega)]
      congr 1
      omega
    | succ i =>
      have he : (i + 1) * z + j = z + (i * z + j) := by rw [Nat.add_mul]; omega
      rw [List.getElem?_append_right (by rw [hl, he]; omega), hl, he, Nat.add_sub_cancel_left]
      exact ih (by simpa using hi)
theorem flatZ_len (hz : ∀ x, (cells x).length = z) (l : List α) : (l.flatMap cells).length = l.length * z := by
  induction l with
  | nil => simp
  | cons a l ih =>
    rw [List.flatMap_cons, List.length_append, ih, hz, List.length_cons, Nat.add_mul]
    omega
theorem flatZ_get (hz : ∀ x, (cells x).length = z) (h0 : 0 < z) {l : List α} {k : Nat} : (l.flatMap cells)[k]? = (l[k / z]?).bind (fun x => (cells x)[k % z]?) := by
  have hm : k % z < z := Nat.mod_lt _ h0
  have hk : k / z * z + k % z = k := by rw [Nat.mul_comm]; exact Nat.div_add_mod k z
  cases hx : l[k / z]? with
  | some x =>
    have := flatZ_at hz hx hm
    rw [hk] at this
    rw [this]
    rfl
  | none =>
    have h1 := List.getElem?_eq_none_iff.1 hx
    have h2 := Nat.mul_le_mul_right z h1
    rw [List.getElem?_eq_none (by rw [flatZ_len hz]; omega)]
    rfl
theorem flatZ_set (hz : ∀ x, (cells x).length = z) {l : List α} {i j : Nat} {x x' : α} {u : Value} (hi : l[i]? = some x) (hj : j < z) (hx : cells x' = (cells x).set j u) : (l.set i x').flatMap cells = (l.flatMap cells).set (i * z + j) u := by
  induction l generalizing i with
  | nil => simp at hi
  | cons a l ih =>
    have hl := hz a
    cases i with
    | zero =>
      simp at hi
      subst hi
      rw [List.set_cons_zero, List.flatMap_cons, List.flatMap_cons, List.set_append_left _ _ (by rw [hl]; omega), hx]
      congr 2
      omega
    | succ i =>
      have he : (i + 1) * z + j = z + (i * z + j) := by rw [Nat.add_mul]; omega
      rw [List.set_cons_succ, List.flatMap_cons, List.flatMap_cons, List.set_append_right _ _ (by rw [hl, he]; omega), hl, he, Nat.add_sub_cancel_left, ih (by simpa using hi)]
end
section
variable {α : Type} {cells : α → List Value} {z B n g cap i j : Nat} {w : World} {t : TypeId} {v : Value} {l : List α} {x x' : α} {u : Value}
/-- The cells of one of a row. -/
theorem rowZ_cells (hz : ∀ x, (cells x).length = z) (h : w.ownsRow B t z v n (l.flatMap cells)) (hn : n = l.length) (hx : l[i]? = some x) : ∃ g cap, v = .slice (some ⟨g, 0, none⟩) n cap ∧ B ≤ g ∧ n ≤ cap ∧ ∀ j, j < z → w.cell? ⟨g, i * z + j, none⟩ = (cells x)[j]? ∧ w.frozen? ⟨g, i * z + j, none⟩ = false := by
  have hi : i < l.length := (List.getElem?_eq_some_iff.1 hx).1
  rcases h.2 with ⟨e, e0⟩ | ⟨g, cap, cs, e, hb, hg, hle, _, hsz, htk⟩
  · omega
  · refine ⟨g, cap, e, hb, hle, fun j hj => ⟨?_, Blk.frozen (show Blk w g t cs from hg) _⟩⟩
    rw [cell_of_row w g (i * z + j) cs _ _ hg]
    have e1 := flatZ_at hz hx hj
    have h3 : (i + 1) * z ≤ n * z := Nat.mul_le_mul_right z (by omega)
    have h4 : (i + 1) * z = i * z + z := by rw [Nat.add_mul]; omega
    rw [← htk, List.getElem?_take, if_pos (by omega)] at e1
    rw [← e1, Array.getElem?_toList]
/-- One cell of one of a row turned. -/
theorem rowZ_set (hz : ∀ x, (cells x).length = z) (h : w.ownsRow B t z (.slice (some ⟨g, 0, none⟩) n cap) n (l.flatMap cells)) (hn : n = l.length) (hi : l[i]? = some x) (hj : j < z) (hx : cells x' = (cells x).set j u) :
    (w.setCell ⟨g, i * z + j, none⟩ u).ownsRow B t z (.slice (some ⟨g, 0, none⟩) n cap) n ((l.set i x').flatMap cells) := by
  refine ⟨by rw [flatZ_len hz, List.length_set, hn], ?_⟩
  rcases h.2 with ⟨e, _⟩ | ⟨g', cap', cs, e, hb, hg, hle, hm, hsz, htk⟩
  · cases e
  · simp only [Value.slice.injEq, Option.some.injEq, Addr.mk.injEq, and_true, true_and] at e
    obtain ⟨rfl, rfl⟩ := e
    have hB : Blk w g t cs := hg
    refine .inr ⟨g, cap, cs.setIfInBounds (i * z + j) u, rfl, hb, hB.set_ _ _, hle, hm, by rw [Array.size_setIfInBounds]; exact hsz, ?_⟩
    rw [flatZ_set hz hi hj hx, ← htk, Array.toList_setIfInBounds, List.take_set]
end
theorem info_parts3 {P : Program} {e : TypeId} {z : Value} {a b : Nat} (h : (P.info? e).map (fun i => (i.zero, i.size, i.bytes)) = some (some z, a, b)) : ∃ i, P.info? e = some i ∧ i.zero = some z ∧ i.size = a ∧ i.bytes = b := by
  cases hi : P.info? e with
  | none => rw [hi] at h; cases h
  | some i =>
    rw [hi] at h
    simp only [Option.map_some, Option.some.injEq, Prod.mk.injEq] at h
    exact ⟨i, rfl, h.1, h.2.1, h.2.2⟩
end Go.Proofs.Ytoldegajbonliaa
