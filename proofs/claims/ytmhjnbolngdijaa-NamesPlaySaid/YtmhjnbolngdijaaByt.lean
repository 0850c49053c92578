/- The row that a conversion of a string to bytes makes. -/
import Derived.Test.YtmhjnbolngdijaaLib
import Derived.Lib.ConvBytes
import Derived.Laws.BytesArg
import Derived.Test.YtmhjnbolngdijaaChecked
namespace Go.Proofs.Ytmhjnbolngdijaa
open Go Go.RowKit
set_option linter.unusedVariables false

/-- Block g is a conversion's row that begins with the bytes l. -/
def Byt (w : World) (g : Nat) (l : List Int) : Prop := ∃ cs : Array Value, w.heap[g]? = some (.cells cs 5 (cs.size, cs.size + 1)) ∧ l.length ≤ cs.size ∧ ∀ (i : Nat) (x : Int), l[i]? = some x → cs[i]? = some (Value.int .u8 x)
section
variable {w w' : World} {g : Nat} {l : List Int}
theorem Byt.lt (h : Byt w g l) : g < w.heap.size := by
  obtain ⟨cs, h, _⟩ := h
  exact (Array.getElem?_eq_some_iff.1 h).1
theorem Byt.fr {S : Nat → Prop} (h : Byt w g l) (hf : Fr S w w') (hg : ¬ S g) : Byt w' g l := by
  have hl := h.lt
  obtain ⟨cs, h, r⟩ := h
  exact ⟨cs, (hf.block g hl hg).trans h, r⟩
theorem Byt.cell (h : Byt w g l) {i : Nat} {x : Int} (hx : l[i]? = some x) : w.cell? ⟨g, i, none⟩ = some (.int .u8 x) := by
  obtain ⟨cs, h, h1, h2⟩ := h
  rw [cell_of_row w g i cs _ _ h]
  exact h2 i x hx
theorem Byt.frozen (h : Byt w g l) {i : Nat} (hi : i < l.length) : w.frozen? ⟨g, i, none⟩ = false := by
  obtain ⟨cs, h, h1, h2⟩ := h
  simp [World.frozen?, h]
  omega
theorem Byt.set_ (h : Byt w g l) {j : Nat} (hj : j < l.length) (x : Int) : Byt (w.setCell ⟨g, j, none⟩ (.int .u8 x)) g (l.set j x) := by
  obtain ⟨cs, h, h1, h2⟩ := h
  refine ⟨cs.setIfInBounds j (.int .u8 x), ?_, by simp; exact h1, fun i y hy => ?_⟩
  · simp [World.setCell, Array.getElem?_modify, h]
  · rw [List.getElem?_set] at hy
    rw [Array.getElem?_setIfInBounds]
    by_cases hij : j = i
    · subst hij
      rw [if_pos rfl, if_pos hj] at hy
      injection hy with hy
      rw [if_pos rfl, if_pos (by omega), hy]
    · rw [if_neg hij] at hy ⊢
      exact h2 i y hy
theorem Byt.conv (h : Byt w g l) (cap : Nat) : (convert 32 9 (.slice (some ⟨g, 0, none⟩) l.length cap)).run Try.prog w = .ok (.string (strOfNums l)) w := by
  have := run_convert_bytes_arg (P := Try.prog) w 32 5 Try.underlying32 Try.underlying5 g 0 l.length cap l rfl (fun i hi => by
      rw [Nat.zero_add, h.cell (List.getElem?_eq_getElem hi)]
      simp [List.getD, hi]) 9 Try.underlying9
  simpa using this
end
/-- What the conversion of a string leaves. -/
theorem convB (w : World) (l : List Int) (hb : ∀ x ∈ l, 0 ≤ x ∧ x ≤ 255) : ∃ cap w', (convert 9 32 (.string (strOfNums l))).run Try.prog w = .ok (.slice (some ⟨w.heap.size, 0, none⟩) l.length cap) w' ∧ Byt w' w.heap.size l ∧ Fr0 w w' ∧ w'.heap.size = w.heap.size + 1 := by
  have hsz : (strOfNums l).size = l.length := strOfNums_size l
  refine ⟨_, _, by rw [Lib.run_convert_string_bytes w _ _ 5 _ Try.underlying9 Try.underlying32 Try.underlying5, hsz], ?_, ?_, Lib.bytesWorld_size _ _ _⟩
  · refine ⟨_, Lib.bytesWorld_at_new _ _ _, ?_, fun i x hx => ?_⟩
    · have : (strOfNums l).data.size = l.length := hsz
      simp [Lib.bytesCells]
      omega
    · have hi := (List.getElem?_eq_some_iff.1 hx).1
      have hi2 : i < (strOfNums l).data.size := by
        have : (strOfNums l).data.size = l.length := hsz
        omega
      unfold Lib.bytesCells
      rw [Array.getElem?_append_left (by simpa using hi2), Array.getElem?_map, ← Array.getElem?_toList, strOfNums_data, List.getElem?_map, hx]
      have := hb x (List.mem_of_getElem? hx)
      simp
      omega
  · have hsz2 := Lib.bytesWorld_size w 5 (strOfNums l)
    refine ⟨rfl, rfl, rfl, by omega, fun k hk _ => Lib.bytesWorld_at_old w _ _ k hk⟩
end Go.Proofs.Ytmhjnbolngdijaa
