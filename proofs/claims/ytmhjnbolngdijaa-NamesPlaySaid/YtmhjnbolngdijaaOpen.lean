/- A slice that came in: its elements' cells, one behind the other, and how they read. -/
import Derived.Test.YtmhjnbolngdijaaPost
import Derived.OpenShut
import Derived.ChangeOld
import Derived.Deep.Slices
import Derived.Deep.Fields
import Derived.ChangeSame
namespace Go.Proofs.Ytmhjnbolngdijaa
open Go.ChangeShapes Go.WideShapes Go.ChangeAt Go.RowKit Go.Deep

theorem addr_flat (b o k : Nat) : (⟨b, o, none⟩ : Addr).add k = ⟨b, o + k, none⟩ := by
  unfold Addr.add
  split <;> simp_all
theorem spot_of_cell {W : World} {x : Addr} {v : Value} (h : W.cell? x = some v) : x = ⟨x.block, x.off, none⟩ ∧ x.block < W.heap.size := by
  have hb := World.block_lt_of_cell? _ _ h
  unfold World.cell? at h
  split at h
  · cases hs : x.spot with
    | none => exact ⟨by cases x; simp_all, hb⟩
    | some _ => simp [hs] at h
  · cases h

section
variable {H : Type} {enc : TypeId × Value → H} {P : Program} {W : World} {base : Nat} {sp : Nat → Bool} {hd : Bool}
/-- The cells of a slice of len elements of k cells each: cs i are those of the i-th. -/
def Lies (W : World) (Bd : Nat) (a : Option Addr) (len k : Nat) (cs : Nat → List Value) : Prop :=
  0 < len → ∃ b off, a = some ⟨b, off, none⟩ ∧ b < Bd ∧ ∀ i j, i < len → j < k → W.cell? ⟨b, off + i * k + j, none⟩ = (cs i)[j]?
theorem open_rows {t e : TypeId} {k fuel : Nat} {v : Value} {x : DataW H × List MemPlace} (ht : P.underlying t = some (.slice e)) (hk : P.cellsOf e = k) (hk0 : 0 < k)
    (h : DataW.trod enc P W base sp hd fuel t [v] = some x) :
    ∃ (a : Option Addr) (len cap : Nat) (cs : Nat → List Value) (D : Nat → DataW H), v = .slice a len cap ∧ len ≤ cap ∧ cap ≤ 9223372036854775807 ∧ ((len = 0 ∧ x.1 = .nil) ∨ ∃ s, x.1 = .slice ((List.range len).map D) s) ∧
      (∀ i, i < len → (cs i).length = k ∧ ∃ n Q, DataW.trod enc P W base sp hd n e (cs i) = some (D i, Q)) ∧ Lies W W.heap.size a len k cs := by
  rcases open_slice ht h with ⟨hcs, hx⟩ | ⟨x', len, cap, m, n, D, Pl, hcs, _, hl, hm, hmm, hx, hi⟩
  · injection hcs with e1
    subst hx
    exact ⟨none, 0, 0, fun _ => [], fun _ => .nil, e1, Nat.le_refl _, by omega, .inl ⟨rfl, rfl⟩, fun i hi => absurd hi (by omega), fun h => absurd h (by omega)⟩
  · injection hcs with e1
    subst hx
    rw [hk] at hi
    have hlm : len ≤ m := by rw [hmm]; split <;> omega
    have hch : ∃ cs : Nat → List Value, ∀ i, i < len → W.cells? base (x'.add (i * k)) k = some (cs i) ∧ DataW.trod enc P W base sp hd n e (cs i) = some (D i, Pl i) := by
      refine ⟨fun i => if h : i < len then (hi i (by omega)).choose else [], fun i hil => ?_⟩
      simp only [dif_pos hil]
      exact (hi i (by omega)).choose_spec
    obtain ⟨cs, hcs2⟩ := hch
    unfold maxLen at hm
    refine ⟨some x', len, cap, cs, D, e1, hl, by omega, .inr ⟨_, rfl⟩, fun i hil => ⟨(World.cells?_some (hcs2 i hil).1).2.1, n, Pl i, (hcs2 i hil).2⟩, fun h0 => ?_⟩
    obtain ⟨_, hln, hat⟩ := World.cells?_some (hcs2 0 h0).1
    have hz := hat 0 hk0
    rw [show (x'.add (0 * k)).add 0 = x' by simp [Addr.add]] at hz
    obtain ⟨u, hu⟩ : ∃ u, (cs 0)[0]? = some u := ⟨(cs 0)[0]'(by omega), List.getElem?_eq_getElem (by omega)⟩
    rw [hu] at hz
    obtain ⟨hs, hb⟩ := spot_of_cell hz
    refine ⟨x'.block, x'.off, by rw [← hs], hb, fun i j hil hj => ?_⟩
    have := (World.cells?_some (hcs2 i hil).1).2.2 j hj
    rw [hs, addr_flat, addr_flat] at this
    exact this
theorem Lies.fr {S : Nat → Prop} {W' : World} {Bd : Nat} {a : Option Addr} {len k : Nat} {cs : Nat → List Value} (h : Lies W Bd a len k cs) (hf : Fr S W W') (hB : Bd ≤ W.heap.size) (hS : ∀ g, g < Bd → ¬ S g) : Lies W' Bd a len k cs := fun h0 => by
  obtain ⟨b, off, e, hb, hc⟩ := h h0
  exact ⟨b, off, e, hb, fun i j hi hj => (hf.cell (p := ⟨b, off + i * k + j, none⟩) (by dsimp only; omega) (hS b hb)).trans (hc i j hi hj)⟩
end
end Go.Proofs.Ytmhjnbolngdijaa
