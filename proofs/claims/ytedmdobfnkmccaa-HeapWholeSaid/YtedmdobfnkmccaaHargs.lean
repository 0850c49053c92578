/- Arguments that came in, opened for the walks: rows of steps. -/
import Derived.Test.YtedmdobfnkmccaaPost
import Derived.Test.YtedmdobfnkmccaaHplays
import Derived.OpenShut
import Derived.ChangeOld
import Derived.Deep.Slices
import Derived.Deep.Fields
import Derived.ChangeSame
namespace Go.Proofs.Ytedmdobfnkmccaa
open Go.ChangeShapes Go.WideShapes Go.ChangeAt Go.RowKit Go.Deep

theorem laidOut : laidOutB Try.prog = true := by kernel_rfl

section
variable {H : Type} {enc : TypeId × Value → H} {W : World} {base : Nat} {sp : Nat → Bool} {hd : Bool}
theorem open_rowS {a : Option Addr} {len cap : Nat} {d : DataW H} {ps : List MemPlace}
    (h : DataW.Trod enc Try.prog W base sp hd 22 (.slice a len cap) d ps) : ∃ zs, RowS W W.heap.size (.slice a len cap) zs := by
  obtain ⟨fuel, hf⟩ := h
  rcases open_slice Try.underlying22 hf with ⟨hcs, _⟩ | ⟨x, l, c, m, n, D, Pl, hcs, _, hl, hm, hmm, _, hi⟩
  · simp [Value.cells] at hcs
    obtain ⟨rfl, rfl, rfl⟩ := hcs
    exact ⟨[], none, 0, rfl, Nat.le_refl _, by omega, (fun x hx => by cases hx), fun h => by simp at h⟩
  · simp [Value.cells] at hcs
    obtain ⟨rfl, rfl, rfl⟩ := hcs
    have hC : Try.prog.cellsOf 35 = 4 := by kernel_rfl
    have hI : Try.prog.cellsOf 3 = 1 := by kernel_rfl
    rw [hC] at hi
    have hlm : len ≤ m := by rw [hmm]; split <;> omega
    have hone : ∀ i, i < len → ∃ s : Stp, (i64b s.1 ∧ i64b s.2.1 ∧ i64b s.2.2.1 ∧ i64b s.2.2.2) ∧ W.cell? (x.add (i * 4)) = some (.int .i64 s.1) ∧ W.cell? ((x.add (i * 4)).add 1) = some (.int .i64 s.2.1) ∧ W.cell? ((x.add (i * 4)).add 2) = some (.int .i64 s.2.2.1) ∧ W.cell? ((x.add (i * 4)).add 3) = some (.int .i64 s.2.2.2) := fun i hil => by
      obtain ⟨cs', hc, ht⟩ := hi i (by omega)
      obtain ⟨ys, n', _, _, _, hyl, hg⟩ := DataW.trod_struct Try.underlying35 ht
      obtain ⟨_, hcl, hat⟩ := World.cells?_some hc
      match cs', hcl with
      | [c0, c1, c2, c3], _ =>
        match ys, hyl with
        | [y0, y1, y2, y3], _ =>
          have g0 : DataW.trod enc Try.prog W base sp hd n' 3 (([c0, c1, c2, c3].drop 0).take (Try.prog.cellsOf 3)) = some y0 := hg 0 _ rfl
          rw [hI] at g0
          have g1 : DataW.trod enc Try.prog W base sp hd n' 3 (([c0, c1, c2, c3].drop 1).take (Try.prog.cellsOf 3)) = some y1 := hg 1 _ rfl
          rw [hI] at g1
          have g2 : DataW.trod enc Try.prog W base sp hd n' 3 (([c0, c1, c2, c3].drop 2).take (Try.prog.cellsOf 3)) = some y2 := hg 2 _ rfl
          rw [hI] at g2
          have g3 : DataW.trod enc Try.prog W base sp hd n' 3 (([c0, c1, c2, c3].drop 3).take (Try.prog.cellsOf 3)) = some y3 := hg 3 _ rfl
          rw [hI] at g3
          obtain ⟨n0, e0, _, w0⟩ := DataW.trod_int Try.underlying3 (x := y0) g0
          obtain ⟨n1, e1, _, w1⟩ := DataW.trod_int Try.underlying3 (x := y1) g1
          obtain ⟨n2, e2, _, w2⟩ := DataW.trod_int Try.underlying3 (x := y2) g2
          obtain ⟨n3, e3, _, w3⟩ := DataW.trod_int Try.underlying3 (x := y3) g3
          have a0 : W.cell? ((x.add (i * 4)).add 0) = some c0 := hat 0 (by omega)
          have a1 : W.cell? ((x.add (i * 4)).add 1) = some c1 := hat 1 (by omega)
          have a2 : W.cell? ((x.add (i * 4)).add 2) = some c2 := hat 2 (by omega)
          have a3 : W.cell? ((x.add (i * 4)).add 3) = some c3 := hat 3 (by omega)
          have f0 : c0 = .int .i64 n0 := by injection e0
          have f1 : c1 = .int .i64 n1 := by injection e1
          have f2 : c2 = .int .i64 n2 := by injection e2
          have f3 : c3 = .int .i64 n3 := by injection e3
          subst f0 f1 f2 f3
          refine ⟨(n0, n1, n2, n3), ⟨wf64 w0, wf64 w1, wf64 w2, wf64 w3⟩, ?_, a1, a2, a3⟩
          rw [show (x.add (i * 4)).add 0 = x.add (i * 4) by simp [Addr.add]] at a0
          exact a0
    rcases Nat.eq_zero_or_pos len with h0 | h0
    · subst h0
      unfold maxLen at hm
      exact ⟨[], some x, cap, rfl, Nat.zero_le _, by omega, (fun x hx => by cases hx), fun h => by simp at h⟩
    · have hch : ∃ f : Nat → Stp, ∀ i, i < len → (i64b (f i).1 ∧ i64b (f i).2.1 ∧ i64b (f i).2.2.1 ∧ i64b (f i).2.2.2) ∧ W.cell? (x.add (i * 4)) = some (.int .i64 (f i).1) ∧ W.cell? ((x.add (i * 4)).add 1) = some (.int .i64 (f i).2.1) ∧ W.cell? ((x.add (i * 4)).add 2) = some (.int .i64 (f i).2.2.1) ∧ W.cell? ((x.add (i * 4)).add 3) = some (.int .i64 (f i).2.2.2) := by
        refine ⟨fun i => if h : i < len then (hone i h).choose else (0, 0, 0, 0), fun i hi => ?_⟩
        simp only [dif_pos hi]
        exact (hone i hi).choose_spec
      obtain ⟨f, hf⟩ := hch
      have hz0 := (hf 0 h0).2.1
      have hspot : x.spot = none := by
        rw [show x.add (0 * 4) = x by simp [Addr.add]] at hz0
        unfold World.cell? at hz0
        split at hz0
        · cases hs : x.spot with
          | none => rfl
          | some _ => simp [hs] at hz0
        · cases hz0
      obtain ⟨b, off, spot⟩ := x
      simp at hspot
      subst hspot
      have hlt : b < W.heap.size := by
        have := World.block_lt_of_cell? _ _ hz0
        simpa [Addr.add] using this
      have hadd : ∀ o k : Nat, (⟨b, o, none⟩ : Addr).add k = ⟨b, o + k, none⟩ := fun o k => by
        unfold Addr.add
        split <;> simp_all
      unfold maxLen at hm
      refine ⟨(List.range len).map f, some ⟨b, off, none⟩, cap, by simp, by simp; omega, by omega, fun y hy => ?_, fun _ => ⟨b, off, rfl, hlt, fun j y hy => ?_⟩⟩
      · obtain ⟨i, hi, rfl⟩ := List.mem_map.1 hy
        exact (hf i (List.mem_range.1 hi)).1
      · rw [List.getElem?_map] at hy
        obtain ⟨i, hi, rfl⟩ := Option.map_eq_some_iff.1 hy
        obtain ⟨hjl, rfl⟩ : j < len ∧ i = j := by
          have := List.getElem?_eq_some_iff.1 hi
          obtain ⟨h1, h2⟩ := this
          simp at h1 h2
          exact ⟨h1, h2.symm⟩
        obtain ⟨_, k0, k1, k2, k3⟩ := hf i hjl
        simp only [hadd] at k0 k1 k2 k3
        exact ⟨k0, k1, k2, k3⟩
end
end Go.Proofs.Ytedmdobfnkmccaa
