/- The walk of SpacePlays. -/
import Derived.Test.YtmkpoemjikdoeaaRmove
namespace Go.Proofs.Ytmkpoemjikdoeaa
open Go Go.RowKit
set_option linter.unusedVariables false

set_option maxHeartbeats 1000000 in
theorem NewRS_ok (dict heap : Int) (w : World) (h : newOk dict heap) :
    Calls Try.prog 18 #[.int .i64 dict, .int .i64 heap] w fun e w' => e = .returned (.tuple #[.pointer (some ⟨w.heap.size + 1, 0, none⟩), .int .i64 0]) ∧ Fr0 w w' ∧ RSp w' (w.heap.size + 1) w.heap.size (noughts (12288 + dict + heap).toNat) 77824 (77824 + dict) := by
  obtain ⟨h1, h2, h3, h4, h5, h6⟩ := h
  have e5 : (dict % 8 != 0) = false := by simp [h5]
  have e6 : (heap % 8 != 0) = false := by simp [h6]
  clear h5 h6
  have hm := fun W => make8 (77824 + dict + heap - 65536) (by omega) (by omega) W
  obtain ⟨z, hz⟩ : ∃ z, (77824 + dict + heap - 65536).toNat = z := ⟨_, rfl⟩
  rw [show (12288 + dict + heap).toNat = z by omega]
  rw [hz] at hm
  have hzl : z ≤ 2000000 := by omega
  clear hz
  go_enter Try.func18, Try.ntmps18
  go_wp2
  go_ret2
  refine ⟨rfl, ((Fr.refl _ w).alloc _).alloc _, ?_, (Blk.new w _ _).alloc _, noughts_bytes _, by rw [noughts_length]; omega⟩
  rw [noughts_length]
  have := Blk.new (w.alloc (.cells (cells8 (noughts z)) 5)) 70 #[.slice (some ⟨w.heap.size, 0, none⟩) z z, .int .i64 77824, .int .i64 (77824 + dict)]
  simpa using this

set_option maxHeartbeats 1000000 in
theorem NewRS_err (dict heap : Int) (w : World) (h : ¬ newOk dict heap) (hd : i64 dict) (hh : i64 heap) :
    Calls Try.prog 18 #[.int .i64 dict, .int .i64 heap] w fun e w' => e = .returned (.tuple #[.pointer none, .int .i64 1]) ∧ w = w' := by
  obtain ⟨d1, d2⟩ := hd
  obtain ⟨g1, g2⟩ := hh
  have hc : dict < 4096 ∨ (4096 ≤ dict ∧ 524288 < dict) ∨ (4096 ≤ dict ∧ dict ≤ 524288 ∧ heap < 0) ∨ (4096 ≤ dict ∧ dict ≤ 524288 ∧ 0 ≤ heap ∧ 524288 < heap) ∨ (4096 ≤ dict ∧ dict ≤ 524288 ∧ 0 ≤ heap ∧ heap ≤ 524288 ∧ (dict % 8 != 0) = true) ∨ (4096 ≤ dict ∧ dict ≤ 524288 ∧ 0 ≤ heap ∧ heap ≤ 524288 ∧ (dict % 8 != 0) = false ∧ (heap % 8 != 0) = true) := by
    unfold newOk at h
    have a1 : (dict % 8 != 0) = true ↔ ¬ dict % 8 = 0 := by simp
    have a2 : (dict % 8 != 0) = false ↔ dict % 8 = 0 := by simp
    have a3 : (heap % 8 != 0) = true ↔ ¬ heap % 8 = 0 := by simp
    rw [a1, a2, a3]
    omega
  clear h
  rcases hc with k1 | ⟨k1, k2⟩ | ⟨k1, k2, k3⟩ | ⟨k1, k2, k3, k4⟩ | ⟨k1, k2, k3, k4, k5⟩ | ⟨k1, k2, k3, k4, k5, k6⟩
  all_goals
    go_enter Try.func18, Try.ntmps18
    go_wp2
    go_ret2
    exact ⟨rfl, rfl⟩

section
variable {B : Nat} {w : World} {p g q g2 : Nat} {bs : List Int} {dict here : Int}
theorem bytes_all {bs : List Int} (hl : bs.length ≤ 2000000) : bytesV bs 65536 bs.length = bs ∧ reachT bs.length 65536 bs.length 0 = 0 := by
  have h : reachT bs.length 65536 bs.length 0 = 0 := by
    unfold reachT
    rw [if_neg (by omega)]
    split
    · rfl
    · rw [if_pos ⟨by omega, by omega⟩]
  refine ⟨?_, h⟩
  unfold bytesV
  rw [if_pos h, show ((65536 : Int) - 65536).toNat = 0 from rfl, List.drop_zero, Int.toNat_natCast, List.take_length]

end

end Go.Proofs.Ytmkpoemjikdoeaa
