/- Scripts of chapter 9 that came in, opened for the walks: rows of steps, and what their bulk bounds. -/
import Derived.Test.YtkgihajpobajaaaArgs
import Derived.Test.YtkgihajpobajaaaOpen
import Derived.Test.YtkgihajpobajaaaRows
namespace Go.Proofs.Ytkgihajpobajaaa
open Go.ChangeShapes Go.WideShapes Go.ChangeAt Go.RowKit Go.Deep

/-- A step of a script. -/
structure Stp9 where
  kind : Int
  a : Int
  v : Int
  n : Int
  b : Value
  bs : List Int
def Stp9.cells (s : Stp9) : List Value := [.int .i64 s.kind, .int .i64 s.a, .int .i64 s.v, .int .i64 s.n, s.b]
def Stp9.val (s : Stp9) : Value := .agg #[.int .i64 s.kind, .int .i64 s.a, .int .i64 s.v, .int .i64 s.n, s.b]
/-- A step that may come. -/
structure Stp9.Ok (W : World) (B : Nat) (s : Stp9) : Prop where
  kind : i64 s.kind
  a : i64 s.a
  v : i64 s.v
  n : i64 s.n
  b : Row8 W B s.b s.bs
/-- A slice of steps that came in: f i is the i-th. -/
structure RowP (W : World) (B : Nat) (a : Option Addr) (len cap : Nat) (f : Nat → Stp9) : Prop where
  le : len ≤ cap
  cap : cap ≤ 9223372036854775807
  ok : ∀ i, i < len → (f i).Ok W B
  lies : Lies W B a len 5 (fun i => (f i).cells)
def sumB (f : Nat → Stp9) : Nat → Nat
  | 0 => 0
  | n + 1 => sumB f n + (f n).bs.length

theorem Stp9.Ok.fr {S : Nat → Prop} {W W' : World} {B : Nat} {s : Stp9} (h : s.Ok W B) (hf : Fr S W W') (hB : B ≤ W.heap.size) (hS : ∀ k, k < B → ¬ S k) : s.Ok W' B := ⟨h.kind, h.a, h.v, h.n, h.b.fr hf hB hS⟩
theorem RowP.fr {S : Nat → Prop} {W W' : World} {B : Nat} {a : Option Addr} {len cap : Nat} {f : Nat → Stp9} (h : RowP W B a len cap f) (hf : Fr S W W') (hB : B ≤ W.heap.size) (hS : ∀ k, k < B → ¬ S k) : RowP W' B a len cap f :=
  ⟨h.le, h.cap, fun i hi => (h.ok i hi).fr hf hB hS, h.lies.fr hf hB hS⟩
/-- The cells of the k-th step. -/
theorem RowP.at_ {W : World} {B : Nat} {a : Option Addr} {len cap k : Nat} {f : Nat → Stp9} (h : RowP W B a len cap f) (hk : k < len) : ∃ b off, a = some ⟨b, off, none⟩ ∧ b < B ∧
    W.cell? ⟨b, off + k * 5, none⟩ = some (.int .i64 (f k).kind) ∧ W.cell? ⟨b, off + k * 5 + 1, none⟩ = some (.int .i64 (f k).a) ∧ W.cell? ⟨b, off + k * 5 + 2, none⟩ = some (.int .i64 (f k).v) ∧ W.cell? ⟨b, off + k * 5 + 3, none⟩ = some (.int .i64 (f k).n) ∧ W.cell? ⟨b, off + k * 5 + 4, none⟩ = some (f k).b := by
  obtain ⟨b, off, e, hb, hc⟩ := h.lies (by omega)
  exact ⟨b, off, e, hb, hc k 0 hk (by omega), hc k 1 hk (by omega), hc k 2 hk (by omega), hc k 3 hk (by omega), hc k 4 hk (by omega)⟩

theorem bulk_one {H : Type} (d : DataW H) : 1 ≤ Rows.uptoBulk d := by
  cases d with
  | lit l => cases l <;> simp [Rows.uptoBulk]
  | _ => simp [Rows.uptoBulk]
theorem bulk_len {H : Type} (l : List (DataW H)) : l.length ≤ Rows.uptoBulkAll l := by
  induction l with
  | nil => simp [Rows.uptoBulkAll]
  | cons x r ih => have := bulk_one x; simp only [Rows.uptoBulkAll, List.length_cons]; omega
theorem bulk_app {H : Type} (l r : List (DataW H)) : Rows.uptoBulkAll (l ++ r) = Rows.uptoBulkAll l + Rows.uptoBulkAll r := by
  induction l with
  | nil => simp [Rows.uptoBulkAll]
  | cons x l ih => simp only [List.cons_append, Rows.uptoBulkAll, ih]; omega
theorem bulk_sum {H : Type} (D : Nat → DataW H) (f : Nat → Stp9) (n : Nat) (h : ∀ i, i < n → (f i).bs.length + 1 ≤ Rows.uptoBulk (D i)) : n + sumB f n ≤ Rows.uptoBulkAll ((List.range n).map D) := by
  induction n with
  | zero => simp [sumB]
  | succ n ih =>
    rw [List.range_succ, List.map_append, bulk_app]
    simp only [List.map_cons, List.map_nil, Rows.uptoBulkAll, sumB]
    have h1 := ih fun i hi => h i (by omega)
    have h2 := h n (by omega)
    omega

section
variable {H : Type} {enc : TypeId × Value → H} {W : World} {base : Nat} {sp : Nat → Bool} {hd : Bool}
theorem open_row8c {fuel : Nat} {c : Value} {x : DataW H × List MemPlace} (h : DataW.trod enc Try.prog W base sp hd fuel 32 [c] = some x) :
    ∃ zs, Row8 W W.heap.size c zs ∧ zs.length ≤ Rows.uptoBulk x.1 := by
  have h' := h
  rcases open_ints Try.underlying32 Try.underlying5 (by kernel_rfl) h with ⟨hcs, _⟩ | ⟨a, len, cap, zs, hcs, _, hl, hm, hz, hx, _⟩
  · injection hcs with e1
    exact ⟨[], ⟨none, 0, e1, Nat.le_refl _, by simp, (fun x hx => by cases hx), fun h => by simp at h⟩, Nat.zero_le _⟩
  · injection hcs with e1
    subst e1
    have hlen : len ≤ zs.length := by rw [hz]; split <;> omega
    obtain ⟨ys, hy⟩ := open_row8 Try.underlying32 Try.underlying5 (by kernel_rfl) (hd := hd) (d := x.1) (ps := x.2) (⟨fuel, h'⟩ : DataW.Trod enc Try.prog W base sp hd 32 (.slice (some a) len cap) x.1 x.2)
    obtain ⟨A, c2, e2, _⟩ := id hy
    injection e2 with _ e3 _
    refine ⟨ys, hy, ?_⟩
    rw [hx]
    simp only [Rows.uptoBulk]
    have := bulk_len (H := H) (lits .u8 (zs.take len))
    have hll : (lits (H := H) .u8 (zs.take len)).length = len := by simp [lits]; omega
    omega
theorem open_rowP {a : Option Addr} {len cap : Nat} {d : DataW H} {ps : List MemPlace}
    (h : DataW.Trod enc Try.prog W base sp hd 45 (.slice a len cap) d ps) : ∃ f, RowP W W.heap.size a len cap f ∧ len + sumB f len ≤ Rows.uptoBulk d := by
  obtain ⟨fuel, hf⟩ := h
  obtain ⟨a', len', cap', cs, D, e, hl, hc, hx, hi, hlies⟩ := open_rows Try.underlying45 (k := 5) (by kernel_rfl) (by omega) hf
  injection e with e1 e2 e3
  subst e1 e2 e3
  have hI : Try.prog.cellsOf 3 = 1 := by kernel_rfl
  have hS : Try.prog.cellsOf 32 = 1 := by kernel_rfl
  have hone : ∀ i, i < len → ∃ s : Stp9, s.Ok W W.heap.size ∧ cs i = s.cells ∧ s.bs.length + 1 ≤ Rows.uptoBulk (D i) := fun i hil => by
    obtain ⟨hcl, n, Q, ht⟩ := hi i hil
    obtain ⟨ys, n', _, hag, _, hyl, hg⟩ := DataW.trod_struct Try.underlying51 ht
    generalize cs i = cs' at *
    match cs', hcl with
    | [c0, c1, c2, c3, c4], _ =>
      match ys, hyl with
      | [y0, y1, y2, y3, y4], _ =>
        have g0 : DataW.trod enc Try.prog W base sp hd n' 3 (([c0, c1, c2, c3, c4].drop 0).take (Try.prog.cellsOf 3)) = some y0 := hg 0 _ rfl
        rw [hI] at g0
        have g1 : DataW.trod enc Try.prog W base sp hd n' 3 (([c0, c1, c2, c3, c4].drop 1).take (Try.prog.cellsOf 3)) = some y1 := hg 1 _ rfl
        rw [hI] at g1
        have g2 : DataW.trod enc Try.prog W base sp hd n' 3 (([c0, c1, c2, c3, c4].drop 2).take (Try.prog.cellsOf 3)) = some y2 := hg 2 _ rfl
        rw [hI] at g2
        have g3 : DataW.trod enc Try.prog W base sp hd n' 3 (([c0, c1, c2, c3, c4].drop 3).take (Try.prog.cellsOf 3)) = some y3 := hg 3 _ rfl
        rw [hI] at g3
        have g4 : DataW.trod enc Try.prog W base sp hd n' 32 (([c0, c1, c2, c3, c4].drop 4).take (Try.prog.cellsOf 32)) = some y4 := hg 4 _ rfl
        rw [hS] at g4
        obtain ⟨n0, e0, _, w0⟩ := DataW.trod_int Try.underlying3 (x := y0) g0
        obtain ⟨n1, e1, _, w1⟩ := DataW.trod_int Try.underlying3 (x := y1) g1
        obtain ⟨n2, e2, _, w2⟩ := DataW.trod_int Try.underlying3 (x := y2) g2
        obtain ⟨n3, e3, _, w3⟩ := DataW.trod_int Try.underlying3 (x := y3) g3
        obtain ⟨zs, hz, hzl⟩ := open_row8c (x := y4) (c := c4) g4
        injection e0 with e0
        injection e1 with e1
        injection e2 with e2
        injection e3 with e3
        subst e0 e1 e2 e3
        refine ⟨⟨n0, n1, n2, n3, c4, zs⟩, ⟨wf64 w0, wf64 w1, wf64 w2, wf64 w3, hz⟩, rfl, ?_⟩
        have hD : D i = .agg ([y0, y1, y2, y3, y4].map (·.1)) := by
          have := congrArg Prod.fst hag
          exact this
        rw [hD]
        simp only [List.map_cons, List.map_nil, Rows.uptoBulk, Rows.uptoBulkAll]
        omega
  have hch : ∃ f : Nat → Stp9, ∀ i, i < len → (f i).Ok W W.heap.size ∧ cs i = (f i).cells ∧ (f i).bs.length + 1 ≤ Rows.uptoBulk (D i) := by
    refine ⟨fun i => if h : i < len then (hone i h).choose else ⟨0, 0, 0, 0, .slice none 0 0, []⟩, fun i hil => ?_⟩
    simp only [dif_pos hil]
    exact (hone i hil).choose_spec
  obtain ⟨f, hf'⟩ := hch
  refine ⟨f, ⟨hl, hc, fun i hil => (hf' i hil).1, fun h0 => ?_⟩, ?_⟩
  · obtain ⟨b, off, e, hb, hcell⟩ := hlies h0
    exact ⟨b, off, e, hb, fun i j hil hj => by rw [hcell i j hil hj, (hf' i hil).2.1]⟩
  · rcases hx with ⟨h0, _⟩ | ⟨s, hs⟩
    · subst h0; simp [sumB]
    · rw [show d = (d, ps).1 from rfl, hs]
      simp only [Rows.uptoBulk]
      have := bulk_sum D f len fun i hi => (hf' i hi).2.2
      omega
end
end Go.Proofs.Ytkgihajpobajaaa
