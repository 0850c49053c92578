/- Scripts of chapter 14 that came in, opened for the walks: rows of steps. -/
import Derived.Test.YtmhjnbolngdijaaNargs
import Derived.Test.YtmhjnbolngdijaaOpen
namespace Go.Proofs.Ytmhjnbolngdijaa
open Go Go.ChangeShapes Go.WideShapes Go.ChangeAt Go.RowKit Go.Deep
set_option linter.unusedVariables false

def i64 (n : Int) : Prop := -9223372036854775808 ≤ n ∧ n ≤ 9223372036854775807
/-- A step of a script. -/
structure Stp where
  kind : Int
  name : List Int
  xt : Int
  list : Int
  imm : Bool
  only : Bool
  n : Int
  l : Value
  ls : List Int
def Stp.cells (s : Stp) : List Value := [.int .i64 s.kind, .string (strOfNums s.name), .int .i64 s.xt, .int .i64 s.list, .bool s.imm, .bool s.only, .int .i64 s.n, s.l]
def Stp.val (s : Stp) : Value := .agg #[.int .i64 s.kind, .string (strOfNums s.name), .int .i64 s.xt, .int .i64 s.list, .bool s.imm, .bool s.only, .int .i64 s.n, s.l]
/-- A step that may come. -/
structure Stp.Ok (W : World) (B : Nat) (s : Stp) : Prop where
  kind : i64 s.kind
  xt : i64 s.xt
  list : i64 s.list
  n : i64 s.n
  name : ∀ x ∈ s.name, 0 ≤ x ∧ x ≤ 255
  l : RowI W B s.l s.ls
/-- A slice of steps that came in: f i is the i-th. -/
structure RowN (W : World) (B : Nat) (a : Option Addr) (len cap : Nat) (f : Nat → Stp) : Prop where
  le : len ≤ cap
  cap : cap ≤ 9223372036854775807
  ok : ∀ i, i < len → (f i).Ok W B
  lies : Lies W B a len 8 (fun i => (f i).cells)
theorem Stp.Ok.below {W W' : World} {B : Nat} {s : Stp} (h : s.Ok W B) (hf : Below B W W') : s.Ok W' B := ⟨h.kind, h.xt, h.list, h.n, h.name, h.l.below hf⟩
theorem RowN.below {W W' : World} {B : Nat} {a : Option Addr} {len cap : Nat} {f : Nat → Stp} (h : RowN W B a len cap f) (hf : Below B W W') : RowN W' B a len cap f :=
  ⟨h.le, h.cap, fun i hi => (h.ok i hi).below hf, fun h0 => by
    obtain ⟨b, off, e, hb, hc⟩ := h.lies h0
    exact ⟨b, off, e, hb, fun i j hi hj => (hf.cell (p := ⟨b, off + i * 8 + j, none⟩) hb).trans (hc i j hi hj)⟩⟩
/-- The cells of the k-th step. -/
theorem RowN.at_ {W : World} {B : Nat} {a : Option Addr} {len cap k : Nat} {f : Nat → Stp} (h : RowN W B a len cap f) (hk : k < len) : ∃ b off, a = some ⟨b, off, none⟩ ∧ b < B ∧
    W.cell? ⟨b, off + k * 8, none⟩ = some (.int .i64 (f k).kind) ∧ W.cell? ⟨b, off + k * 8 + 1, none⟩ = some (.string (strOfNums (f k).name)) ∧ W.cell? ⟨b, off + k * 8 + 2, none⟩ = some (.int .i64 (f k).xt) ∧ W.cell? ⟨b, off + k * 8 + 3, none⟩ = some (.int .i64 (f k).list) ∧ W.cell? ⟨b, off + k * 8 + 4, none⟩ = some (.bool (f k).imm) ∧ W.cell? ⟨b, off + k * 8 + 5, none⟩ = some (.bool (f k).only) ∧ W.cell? ⟨b, off + k * 8 + 6, none⟩ = some (.int .i64 (f k).n) ∧ W.cell? ⟨b, off + k * 8 + 7, none⟩ = some (f k).l := by
  obtain ⟨b, off, e, hb, hc⟩ := h.lies (by omega)
  exact ⟨b, off, e, hb, hc k 0 hk (by omega), hc k 1 hk (by omega), hc k 2 hk (by omega), hc k 3 hk (by omega), hc k 4 hk (by omega), hc k 5 hk (by omega), hc k 6 hk (by omega), hc k 7 hk (by omega)⟩

section
variable {H : Type} {enc : TypeId × Value → H} {W : World} {base : Nat} {sp : Nat → Bool} {hd : Bool}
theorem open_rowIc {fuel : Nat} {c : Value} {x : DataW H × List MemPlace} (h : DataW.trod enc Try.prog W base sp hd fuel 41 [c] = some x) : ∃ zs, RowI W W.heap.size c zs := by
  have h' := h
  rcases open_ints Try.underlying41 Try.underlying3 (by kernel_rfl) h with ⟨hcs, _⟩ | ⟨a, len, cap, zs, hcs, _, hl, hm, hz, hx, _⟩
  · injection hcs with e1
    exact ⟨[], none, 0, e1, Nat.le_refl _, by omega, (fun x hx => by cases hx), fun h => by simp at h⟩
  · injection hcs with e1
    subst e1
    exact open_rowI Try.underlying41 Try.underlying3 (by kernel_rfl) (hd := hd) (d := x.1) (ps := x.2) (⟨fuel, h'⟩ : DataW.Trod enc Try.prog W base sp hd 41 (.slice (some a) len cap) x.1 x.2)
set_option maxRecDepth 100000 in
theorem open_rowN {a : Option Addr} {len cap : Nat} {d : DataW H} {ps : List MemPlace}
    (h : DataW.Trod enc Try.prog W base sp hd 48 (.slice a len cap) d ps) : ∃ f, RowN W W.heap.size a len cap f := by
  obtain ⟨fuel, hf⟩ := h
  obtain ⟨a', len', cap', cs, D, e, hl, hc, hx, hi, hlies⟩ := open_rows Try.underlying48 (k := 8) (by kernel_rfl) (by omega) hf
  injection e with e1 e2 e3
  subst e1 e2 e3
  have hI : Try.prog.cellsOf 3 = 1 := by kernel_rfl
  have hB : Try.prog.cellsOf 4 = 1 := by kernel_rfl
  have hT : Try.prog.cellsOf 9 = 1 := by kernel_rfl
  have hS : Try.prog.cellsOf 41 = 1 := by kernel_rfl
  have hone : ∀ i, i < len → ∃ s : Stp, s.Ok W W.heap.size ∧ cs i = s.cells := fun i hil => by
    obtain ⟨hcl, n, Q, ht⟩ := hi i hil
    obtain ⟨ys, n', _, hag, _, hyl, hg⟩ := DataW.trod_struct Try.underlying61 ht
    generalize cs i = cs' at *
    match cs', hcl with
    | [c0, c1, c2, c3, c4, c5, c6, c7], _ =>
      match ys, hyl with
      | [y0, y1, y2, y3, y4, y5, y6, y7], _ =>
        have g0 : DataW.trod enc Try.prog W base sp hd n' 3 (([c0, c1, c2, c3, c4, c5, c6, c7].drop 0).take (Try.prog.cellsOf 3)) = some y0 := hg 0 _ rfl
        have g1 : DataW.trod enc Try.prog W base sp hd n' 9 (([c0, c1, c2, c3, c4, c5, c6, c7].drop 1).take (Try.prog.cellsOf 9)) = some y1 := hg 1 _ rfl
        have g2 : DataW.trod enc Try.prog W base sp hd n' 3 (([c0, c1, c2, c3, c4, c5, c6, c7].drop 2).take (Try.prog.cellsOf 3)) = some y2 := hg 2 _ rfl
        have g3 : DataW.trod enc Try.prog W base sp hd n' 3 (([c0, c1, c2, c3, c4, c5, c6, c7].drop 3).take (Try.prog.cellsOf 3)) = some y3 := hg 3 _ rfl
        have g4 : DataW.trod enc Try.prog W base sp hd n' 4 (([c0, c1, c2, c3, c4, c5, c6, c7].drop 4).take (Try.prog.cellsOf 4)) = some y4 := hg 4 _ rfl
        have g5 : DataW.trod enc Try.prog W base sp hd n' 4 (([c0, c1, c2, c3, c4, c5, c6, c7].drop 5).take (Try.prog.cellsOf 4)) = some y5 := hg 5 _ rfl
        have g6 : DataW.trod enc Try.prog W base sp hd n' 3 (([c0, c1, c2, c3, c4, c5, c6, c7].drop 6).take (Try.prog.cellsOf 3)) = some y6 := hg 6 _ rfl
        have g7 : DataW.trod enc Try.prog W base sp hd n' 41 (([c0, c1, c2, c3, c4, c5, c6, c7].drop 7).take (Try.prog.cellsOf 41)) = some y7 := hg 7 _ rfl
        rw [hI] at g0 g2 g3 g6
        rw [hT] at g1
        rw [hB] at g4 g5
        rw [hS] at g7
        obtain ⟨n0, e0, _, w0⟩ := DataW.trod_int Try.underlying3 (x := y0) g0
        obtain ⟨s1, e1, _, w1⟩ := DataW.trod_string Try.underlying9 (x := y1) g1
        obtain ⟨n2, e2, _, w2⟩ := DataW.trod_int Try.underlying3 (x := y2) g2
        obtain ⟨n3, e3, _, w3⟩ := DataW.trod_int Try.underlying3 (x := y3) g3
        obtain ⟨b4, e4, _⟩ := DataW.trod_bool Try.underlying4 (x := y4) g4
        obtain ⟨b5, e5, _⟩ := DataW.trod_bool Try.underlying4 (x := y5) g5
        obtain ⟨n6, e6, _, w6⟩ := DataW.trod_int Try.underlying3 (x := y6) g6
        obtain ⟨zs, hz⟩ := open_rowIc (x := y7) (c := c7) g7
        injection e0 with e0
        injection e1 with e1
        injection e2 with e2
        injection e3 with e3
        injection e4 with e4
        injection e5 with e5
        injection e6 with e6
        subst e0 e1 e2 e3 e4 e5 e6
        exact ⟨⟨n0, numsOf s1, n2, n3, b4, b5, n6, c7, zs⟩, ⟨wf64 w0, wf64 w2, wf64 w3, wf64 w6, numsOf_bytes s1, hz⟩, by unfold Stp.cells; rw [strOf_numsOf]⟩
  have hch : ∃ f : Nat → Stp, ∀ i, i < len → (f i).Ok W W.heap.size ∧ cs i = (f i).cells := by
    refine ⟨fun i => if h : i < len then (hone i h).choose else ⟨0, [], 0, 0, false, false, 0, .slice none 0 0, []⟩, fun i hil => ?_⟩
    simp only [dif_pos hil]
    exact (hone i hil).choose_spec
  obtain ⟨f, hf'⟩ := hch
  refine ⟨f, ⟨hl, hc, fun i hil => (hf' i hil).1, fun h0 => ?_⟩⟩
  obtain ⟨b, off, e, hb, hcell⟩ := hlies h0
  exact ⟨b, off, e, hb, fun i j hil hj => by rw [hcell i j hil hj, (hf' i hil).2]⟩
end
end Go.Proofs.Ytmhjnbolngdijaa
