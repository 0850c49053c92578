/- The table of words: a row. -/
import Derived.Test.YtoliidlaahhcpaaWtab
import Derived.Great.Walk
import Derived.Test.YtoliidlaahhcpaaPost
import Derived.Test.YtoliidlaahhcpaaChecked
namespace Go.Proofs.Ytoliidlaahhcpaa
open Go Go.RowKit
set_option linter.unusedVariables false

/-- A flag of a row, as the program reckons it. -/
def flag (fl m : Int) : Bool := bits BinOp.and IntKind.i64 fl m != 0
/-- A row as the program's cells. -/
def rowCells (r : WRow) : List Value := [.string (strOfNums r.1), .int .i64 r.2.1, .bool (flag r.2.2.1 1), .bool (flag r.2.2.1 2), .int .i64 r.2.2.2.1, .int .i64 r.2.2.2.2.1, .int .i64 r.2.2.2.2.2.1, .int .i64 r.2.2.2.2.2.2]
def rowV (r : WRow) : Value := .agg (rowCells r).toArray

set_option maxHeartbeats 2000000 in
theorem row_any (s : ByteArray) (layer fl ta gi ft fg : Int) (w : World) :
    Calls Try.prog 26 #[.string s, .int .i64 layer, .int .i64 fl, .int .i64 ta, .int .i64 gi, .int .i64 ft, .int .i64 fg] w fun e w' => e = .returned (.agg #[.string s, .int .i64 layer, .bool (flag fl 1), .bool (flag fl 2), .int .i64 ta, .int .i64 gi, .int .i64 ft, .int .i64 fg]) ∧ Fr0 w w' := by
  unfold flag
  go_enter Try.func26, Try.ntmps26
  go_wp2
  generalize hb1 : (bits BinOp.and IntKind.i64 fl 1 != 0) = b1
  generalize hb2 : (bits BinOp.and IntKind.i64 fl 2 != 0) = b2
  have hb := Blk.new w 23 #[.string s, .int .i64 layer, .bool b1, .bool b2, .int .i64 ta, .int .i64 gi, .int .i64 ft, .int .i64 fg]
  have hf : Fr0 w (w.alloc (.cells #[.string s, .int .i64 layer, .bool b1, .bool b2, .int .i64 ta, .int .i64 gi, .int .i64 ft, .int .i64 fg] 23)) := (Fr.refl _ w).alloc _
  generalize (w.alloc (.cells #[.string s, .int .i64 layer, .bool b1, .bool b2, .int .i64 ta, .int .i64 gi, .int .i64 ft, .int .i64 fg] 23)) = W at *
  generalize w.heap.size = g at *
  obtain ⟨r0, r1, r2, r3, r4, r5, r6, r7⟩ : W.cell? ⟨g, 0, none⟩ = some (.string s) ∧ W.cell? ⟨g, 1, none⟩ = some (.int .i64 layer) ∧ W.cell? ⟨g, 2, none⟩ = some (.bool b1) ∧ W.cell? ⟨g, 3, none⟩ = some (.bool b2) ∧ W.cell? ⟨g, 4, none⟩ = some (.int .i64 ta) ∧ W.cell? ⟨g, 5, none⟩ = some (.int .i64 gi) ∧ W.cell? ⟨g, 6, none⟩ = some (.int .i64 ft) ∧ W.cell? ⟨g, 7, none⟩ = some (.int .i64 fg) := ⟨hb.cell 0, hb.cell 1, hb.cell 2, hb.cell 3, hb.cell 4, hb.cell 5, hb.cell 6, hb.cell 7⟩
  clear hb
  exact bodyPost_ret (v := .agg #[.string s, .int .i64 layer, .bool b1, .bool b2, .int .i64 ta, .int .i64 gi, .int .i64 ft, .int .i64 fg]) (by simp [results, Try.results26, go_sem, r0, r1, r2, r3, r4, r5, r6, r7]) rfl ⟨rfl, hf⟩

/-- Rows one after another, as cells. -/
def cellsW (l : List WRow) : Array Value := (l.flatMap rowCells).toArray
theorem cellsW_at (l : List WRow) (i j : Nat) (r : WRow) (hi : l[i]? = some r) (hj : j < 8) : (cellsW l)[8 * i + j]? = (rowCells r)[j]? := by
  unfold cellsW
  rw [List.getElem?_toArray]
  induction l generalizing i with
  | nil => simp at hi
  | cons a l ih =>
    rw [List.flatMap_cons]
    have hl : (rowCells a).length = 8 := rfl
    cases i with
    | zero =>
      simp at hi
      subst hi
      rw [List.getElem?_append_left (by rw [hl]; omega)]
      congr 1
      omega
    | succ i =>
      rw [List.getElem?_append_right (by rw [hl]; omega), hl, show 8 * (i + 1) + j - 8 = 8 * i + j by omega]
      exact ih i (by simpa using hi)
section
variable {P : Program}
theorem wp_buildSliceTo {o : Oper} {a : Act} {w : World} {K : Act → World → Prop} {Q : Exit → Act → World → Prop} (t e : TypeId) (len : Nat) (parts : Array (Nat × Operand)) (ho : o.op = .buildSlice t len parts)
    (hu : P.underlying t = some (.slice e)) (cells : Array Value) (hf : P.builtSlice e len (parts.map fun (i, x) => (i, a.eval x)).toList = some cells)
    (h : K (a.put o.dst (.slice (some ⟨w.heap.size, 0, none⟩) len len)) (w.alloc (.cells cells e))) : o.wp P a w K Q := by
  unfold Program.builtSlice at hf
  cases hie : P.info? e with
  | none => simp [hie] at hf
  | some ie =>
    simp only [hie] at hf
    cases hz : ie.zero with
    | none => simp [hz] at hf
    | some z =>
      simp only [hz] at hf
      by_cases hc : len * ie.size > 2 ^ 24 ∨ len * ie.size = 0
      · simp [hc] at hf
      · rw [if_neg hc] at hf
        exact wp_buildSlice t e len parts ho cells ie z hu hie hz (fun x => hc (.inl x)) (fun x => hc (.inr x)) hf h
end

end Go.Proofs.Ytoliidlaahhcpaa
