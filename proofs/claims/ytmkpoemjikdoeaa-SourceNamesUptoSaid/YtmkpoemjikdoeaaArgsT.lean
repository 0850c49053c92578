/- Slices of strings that came in, opened for the walks, with what their bulk bounds. -/
import Derived.Test.YtmkpoemjikdoeaaSrcNm
import Derived.Test.YtmkpoemjikdoeaaRows
import Derived.SliceStrings
namespace Go.Proofs.Ytmkpoemjikdoeaa
open Go.ChangeShapes Go.WideShapes Go.ChangeAt Go.RowKit

def numsOf (s : ByteArray) : List Int := s.data.toList.map fun b => (b.toNat : Int)
theorem numsOf_len (s : ByteArray) : (numsOf s).length = s.size := by
  unfold numsOf
  rw [List.length_map, Array.length_toList]
  rfl
theorem numsOf_bytes (s : ByteArray) : ∀ x ∈ numsOf s, 0 ≤ x ∧ x ≤ 255 := fun x hx => by
  obtain ⟨b, _, rfl⟩ := List.mem_map.1 hx
  have := b.toNat_lt
  omega
theorem strOf_numsOf (s : ByteArray) : strOfNums (numsOf s) = s := by
  unfold strOfNums numsOf
  rw [List.map_map]
  have : (fun n : Int => UInt8.ofNat n.toNat) ∘ (fun b : UInt8 => (b.toNat : Int)) = id := by
    funext b
    simp
  rw [this, List.map_id]
theorem bulk_strs {H : Type} (ss : List ByteArray) : ∀ s ∈ ss, s.size ≤ Rows.uptoBulkAll (strs (H := H) ss) := by
  induction ss with
  | nil => intro s hs; cases hs
  | cons a r ih =>
    intro s hs
    simp only [strs, List.map_cons, Rows.uptoBulkAll, Rows.uptoBulk]
    rcases List.mem_cons.1 hs with rfl | hs
    · have : s.data.toList.length = s.size := by rw [Array.length_toList]; rfl
      omega
    · have := ih s hs
      unfold strs at this
      omega

section
variable {H : Type} {enc : TypeId × Value → H} {W : World} {base : Nat} {sp : Nat → Bool} {hd : Bool}
theorem open_rowT {a : Option Addr} {len cap : Nat} {d : DataW H} {ps : List MemPlace}
    (h : DataW.Trod enc Try.prog W base sp hd 22 (.slice a len cap) d ps) : ∃ ns, RowT W W.heap.size (.slice a len cap) ns ∧ ∀ nm ∈ ns, nm.length ≤ Rows.uptoBulk d := by
  obtain ⟨fuel, hf⟩ := h
  rcases open_strings Try.underlying22 Try.underlying9 (by kernel_rfl) hf with ⟨hcs, hx⟩ | ⟨x, l, c, ss, hcs, _, hl, hm, hz, hx, hcell, hsz⟩
  · simp [Value.cells] at hcs
    obtain ⟨rfl, rfl, rfl⟩ := hcs
    exact ⟨[], ⟨none, 0, rfl, (fun x hx => by cases hx), fun h => by simp at h⟩, fun x hx => by cases hx⟩
  · simp [Value.cells] at hcs
    obtain ⟨rfl, rfl, rfl⟩ := hcs
    have hlen : len ≤ ss.length := by rw [hz]; split <;> omega
    have hl2 : ((ss.take len).map numsOf).length = len := by simp; omega
    injection hx with hx1 hx2
    refine ⟨(ss.take len).map numsOf, ⟨some x, cap, by rw [hl2], fun nm hnm => ?_, fun hp => ?_⟩, fun nm hnm => ?_⟩
    · obtain ⟨s, _, rfl⟩ := List.mem_map.1 hnm
      exact numsOf_bytes s
    · have h0 := hcell 0 (by omega)
      have hspot : x.spot = none := by
        rw [show x.add 0 = x by simp [Addr.add]] at h0
        unfold World.cell? at h0
        split at h0
        · cases hs : x.spot with
          | none => rfl
          | some _ => simp [hs] at h0
        · cases h0
      refine ⟨x.block, x.off, by cases x; simp_all, ?_, fun j nm hy => ?_⟩
      · have := World.block_lt_of_cell? _ _ h0
        simpa [Addr.add] using this
      · rw [List.getElem?_map, List.getElem?_take] at hy
        split at hy
        · cases hs : ss[j]? with
          | none => rw [hs] at hy; cases hy
          | some s =>
            rw [hs] at hy
            simp only [Option.map_some, Option.some.injEq] at hy
            subst hy
            have hj : j < ss.length := (List.getElem?_eq_some_iff.1 hs).1
            have := hcell j hj
            rw [List.getD_eq_getElem?_getD, hs, Option.getD_some] at this
            rw [strOf_numsOf, ← this]
            congr 1
            unfold Addr.add
            cases x
            simp at hspot
            subst hspot
            split <;> simp_all
        · cases hy
    · obtain ⟨s, hs, rfl⟩ := List.mem_map.1 hnm
      have := bulk_strs (H := H) _ s hs
      rw [numsOf_len, hx1]
      simp only [Rows.uptoBulk]
      omega
end
end Go.Proofs.Ytmkpoemjikdoeaa
