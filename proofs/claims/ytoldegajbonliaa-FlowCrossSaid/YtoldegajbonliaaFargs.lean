/- Slices of ints that came in, opened for the walks (flow). -/
import Derived.Test.YtoldegajbonliaaPost
import Derived.Test.YtoldegajbonliaaFcl
import Derived.OpenShut
import Derived.ChangeOld
import Derived.ProofKit
namespace Go.Proofs.Ytoldegajbonliaa
open Go.ChangeShapes Go.WideShapes Go.ChangeAt Go.RowKit
theorem laidOut : laidOutB Try.prog = true := by kernel_rfl
/-- A slice of ints that came in: its elements. -/
def RowI (w : World) (B : Nat) (sv : Value) (zs : List Int) : Prop :=
  ∃ A cap, sv = .slice A zs.length cap ∧ zs.length ≤ cap ∧ cap ≤ 9223372036854775807 ∧ (∀ x ∈ zs, -9223372036854775808 ≤ x ∧ x ≤ 9223372036854775807) ∧ (0 < zs.length → ∃ b off, A = some ⟨b, off, none⟩ ∧ b < B ∧ ∀ j x, zs[j]? = some x → w.cell? ⟨b, off + j, none⟩ = some (.int .i64 x))

section
variable {w w' : World} {B : Nat} {sv : Value} {zs : List Int}
theorem RowI.keep (h : RowI w B sv zs) (hk : ∀ p : Addr, p.block < B → w'.cell? p = w.cell? p) : RowI w' B sv zs := by
  obtain ⟨A, cap, e, h1, h2, h3, h4⟩ := h
  refine ⟨A, cap, e, h1, h2, h3, fun hn => ?_⟩
  obtain ⟨b, off, e, hb, hc⟩ := h4 hn
  exact ⟨b, off, e, hb, fun j x hx => (hk ⟨b, off + j, none⟩ hb).trans (hc j x hx)⟩
theorem RowI.below (h : RowI w B sv zs) (hb : Below B w w') : RowI w' B sv zs := h.keep fun _ hp => hb.cell hp
theorem RowI.at_ {A : Option Addr} {n cap : Nat} (h : RowI w B (.slice A n cap) zs) {k : Nat} (hk : k < zs.length) : ∃ b off x, A = some ⟨b, off, none⟩ ∧ b < B ∧ zs[k]? = some x ∧ (-9223372036854775808 ≤ x ∧ x ≤ 9223372036854775807) ∧ w.cell? ⟨b, off + k, none⟩ = some (.int .i64 x) := by
  obtain ⟨A', cap', e, h1, h2, h3, h4⟩ := h
  injection e with e1 e2 e3
  subst e1
  obtain ⟨b, off, e, hb, hc⟩ := h4 (by omega)
  exact ⟨b, off, zs[k], e, hb, List.getElem?_eq_getElem hk, h3 _ (List.getElem_mem hk), hc k _ (List.getElem?_eq_getElem hk)⟩
end

section
variable {H : Type} {enc : TypeId × Value → H} {W : World} {base : Nat} {sp : Nat → Bool} {hd : Bool}
set_option maxRecDepth 100000 in
theorem open_rowI {t e : TypeId} {a : Option Addr} {len cap : Nat} {d : DataW H} {ps : List MemPlace} (ht : Try.prog.underlying t = some (.slice e)) (he : Try.prog.underlying e = some (.int .i64)) (hc : Try.prog.cellsOf e = 1)
    (h : DataW.Trod enc Try.prog W base sp hd t (.slice a len cap) d ps) : ∃ zs, RowI W W.heap.size (.slice a len cap) zs := by
  obtain ⟨fuel, hf⟩ := h
  rcases open_ints ht he hc hf with ⟨hcs, _⟩ | ⟨x, l, c, zs, hcs, _, hl, hm, hz, _, hcell, hwz⟩
  · simp [Value.cells] at hcs
    obtain ⟨rfl, rfl, rfl⟩ := hcs
    exact ⟨[], none, 0, rfl, Nat.le_refl _, by omega, (fun x hx => by cases hx), fun h => by simp at h⟩
  · simp [Value.cells] at hcs
    obtain ⟨rfl, rfl, rfl⟩ := hcs
    have hlen : len ≤ zs.length := by rw [hz]; split <;> omega
    have hl2 : (zs.take len).length = len := by simp; omega
    unfold maxLen at hm
    refine ⟨zs.take len, some x, cap, by rw [hl2], by omega, hm, fun y hy => wf64 (hwz y (List.mem_of_mem_take hy)), fun hp => ?_⟩
    have h0 := hcell 0 (by omega)
    have hspot : x.spot = none := by
      rw [show x.add 0 = x by simp [Addr.add]] at h0
      unfold World.cell? at h0
      split at h0
      · cases hs : x.spot with
        | none => rfl
        | some _ => simp [hs] at h0
      · cases h0
    refine ⟨x.block, x.off, by cases x; simp_all, ?_, fun j y hy => ?_⟩
    · have := World.block_lt_of_cell? _ _ h0
      simpa [Addr.add] using this
    · rw [List.getElem?_take] at hy
      split at hy
      · have hj : j < zs.length := (List.getElem?_eq_some_iff.1 hy).1
        have := hcell j hj
        rw [List.getD_eq_getElem?_getD, hy, Option.getD_some] at this
        rw [← this]
        congr 1
        unfold Addr.add
        cases x
        simp at hspot
        subst hspot
        split <;> simp_all
      · cases hy

end
theorem RowI.rd {w : World} {B : Nat} {sv : Value} {zs : List Int} (h : RowI w B sv zs) : RdI w sv zs := by
  obtain ⟨A, cap, e, _, _, _, h4⟩ := h
  refine ⟨by simp, A, cap, e, fun hn => ?_⟩
  obtain ⟨b, off, e2, _, hc⟩ := h4 hn
  refine ⟨b, off, e2, fun j u hj => ?_⟩
  rw [List.getElem?_map] at hj
  cases hx : zs[j]? with
  | none => rw [hx] at hj; cases hj
  | some x =>
    rw [hx] at hj
    simp only [Option.map_some, Option.some.injEq] at hj
    rw [← hj]
    exact hc j x hx
theorem RowI.fr0 {w w' : World} {B : Nat} {sv : Value} {zs : List Int} (h : RowI w B sv zs) (hf : Fr0 w w') : RowI w' B sv zs := by
  obtain ⟨A, cap, e, h1, h2, h3, h4⟩ := h
  refine ⟨A, cap, e, h1, h2, h3, fun hn => ?_⟩
  obtain ⟨b, off, e, hb, hc⟩ := h4 hn
  refine ⟨b, off, e, hb, fun j x hx => ?_⟩
  have h5 := hc j x hx
  exact (hf.cell (p := ⟨b, off + j, none⟩) (World.block_lt_of_cell? _ _ h5) (fun x => x)).trans h5
end Go.Proofs.Ytoldegajbonliaa
