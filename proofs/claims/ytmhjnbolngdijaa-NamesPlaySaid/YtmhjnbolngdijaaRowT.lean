/- Slices of strings that came in, opened for the walks. -/
import Derived.Test.YtmhjnbolngdijaaPost
import Derived.Test.YtmhjnbolngdijaaChecked
import Derived.SliceStrings
import Derived.ShutString
import Derived.OpenShut
import Derived.ChangeOld
import Derived.Laws.BytesArg
namespace Go.Proofs.Ytmhjnbolngdijaa
open Go Go.RowKit Go.ChangeShapes Go.WideShapes Go.ChangeAt
set_option linter.unusedVariables false

theorem laidOut : laidOutB Try.prog = true := by kernel_rfl
/-- A slice of strings that came in: their bytes. -/
def RowT (w : World) (B : Nat) (sv : Value) (ns : List (List Int)) : Prop :=
  ∃ A cap, sv = .slice A ns.length cap ∧ (∀ nm ∈ ns, ∀ x ∈ nm, 0 ≤ x ∧ x ≤ 255) ∧ (0 < ns.length → ∃ b off, A = some ⟨b, off, none⟩ ∧ b < B ∧ ∀ j nm, ns[j]? = some nm → w.cell? ⟨b, off + j, none⟩ = some (.string (strOfNums nm)))
section
variable {w w' : World} {B : Nat} {sv : Value} {ns : List (List Int)}
theorem RowT.below (h : RowT w B sv ns) (hb : Below B w w') : RowT w' B sv ns := by
  obtain ⟨A, cap, e, h1, h2⟩ := h
  refine ⟨A, cap, e, h1, fun hn => ?_⟩
  obtain ⟨b, off, e, hb', hc⟩ := h2 hn
  exact ⟨b, off, e, hb', fun j nm hx => (hb.cell (p := ⟨b, off + j, none⟩) hb').trans (hc j nm hx)⟩
theorem RowT.at_ {A : Option Addr} {n cap : Nat} (h : RowT w B (.slice A n cap) ns) {k : Nat} (hk : k < ns.length) : ∃ b off nm, A = some ⟨b, off, none⟩ ∧ b < B ∧ ns[k]? = some nm ∧ (∀ x ∈ nm, 0 ≤ x ∧ x ≤ 255) ∧ w.cell? ⟨b, off + k, none⟩ = some (.string (strOfNums nm)) := by
  obtain ⟨A', cap', e, h1, h2⟩ := h
  injection e with e1 e2 e3
  subst e1
  obtain ⟨b, off, e, hb, hc⟩ := h2 (by omega)
  exact ⟨b, off, ns[k], e, hb, List.getElem?_eq_getElem hk, h1 _ (List.getElem_mem hk), hc k _ (List.getElem?_eq_getElem hk)⟩
end
def numsOf (s : ByteArray) : List Int := s.data.toList.map fun b => (b.toNat : Int)
theorem numsOf_len (s : ByteArray) : (numsOf s).length = s.size := by
  unfold numsOf
  rw [List.length_map, Array.length_toList]
  rfl
theorem numsOf_bytes (s : ByteArray) : ∀ x ∈ numsOf s, 0 ≤ x ∧ x ≤ 255 := fun x hx => by
  obtain ⟨b, _, rfl⟩ := List.mem_map.1 hx
  have := b.toNat_lt
  omega
theorem strOf_numsOf (s : ByteArray) : strOfNums (numsOf s) = s := by
  unfold strOfNums numsOf
  rw [List.map_map]
  have : (fun n : Int => UInt8.ofNat n.toNat) ∘ (fun b : UInt8 => (b.toNat : Int)) = id := by
    funext b
    simp
  rw [this, List.map_id]
section
variable {H : Type} {enc : TypeId × Value → H} {W : World} {base : Nat} {sp : Nat → Bool} {hd : Bool}
theorem open_rowT {a : Option Addr} {len cap : Nat} {d : DataW H} {ps : List MemPlace}
    (h : DataW.Trod enc Try.prog W base sp hd 22 (.slice a len cap) d ps) : ∃ ns, RowT W W.heap.size (.slice a len cap) ns := by
  obtain ⟨fuel, hf⟩ := h
  rcases open_strings Try.underlying22 Try.underlying9 (by kernel_rfl) hf with ⟨hcs, hx⟩ | ⟨x, l, c, ss, hcs, _, hl, hm, hz, hx, hcell, hsz⟩
  · simp [Value.cells] at hcs
    obtain ⟨rfl, rfl, rfl⟩ := hcs
    exact ⟨[], none, 0, rfl, (fun x hx => by cases hx), fun h => by simp at h⟩
  · simp [Value.cells] at hcs
    obtain ⟨rfl, rfl, rfl⟩ := hcs
    have hlen : len ≤ ss.length := by rw [hz]; split <;> omega
    have hl2 : ((ss.take len).map numsOf).length = len := by simp; omega
    injection hx with hx1 hx2
    refine ⟨(ss.take len).map numsOf, some x, cap, by rw [hl2], fun nm hnm => ?_, fun hp => ?_⟩
    · obtain ⟨s, _, rfl⟩ := List.mem_map.1 hnm
      exact numsOf_bytes s
    · have h0 := hcell 0 (by omega)
      have hspot : x.spot = none := by
        rw [show x.add 0 = x by simp [Addr.add]] at h0
        unfold World.cell? at h0
        split at h0
        · cases hs : x.spot with
          | none => rfl
          | some _ => simp [hs] at h0
        · cases h0
      refine ⟨x.block, x.off, by cases x; simp_all, ?_, fun j nm hy => ?_⟩
      · have := World.block_lt_of_cell? _ _ h0
        simpa [Addr.add] using this
      · rw [List.getElem?_map, List.getElem?_take] at hy
        split at hy
        · cases hs : ss[j]? with
          | none => rw [hs] at hy; cases hy
          | some s =>
            rw [hs] at hy
            simp only [Option.map_some, Option.some.injEq] at hy
            subst hy
            have hj : j < ss.length := (List.getElem?_eq_some_iff.1 hs).1
            have := hcell j hj
            rw [List.getD_eq_getElem?_getD, hs, Option.getD_some] at this
            rw [strOf_numsOf, ← this]
            congr 1
            unfold Addr.add
            cases x
            simp at hspot
            subst hspot
            split <;> simp_all
        · cases hy
end
end Go.Proofs.Ytmhjnbolngdijaa
