/- The program's data space: New. -/
import Derived.Test.YtmkpoemjikdoeaaPut
import Derived.Deep.OwnRows
namespace Go.Proofs.Ytmkpoemjikdoeaa
open Go Go.RowKit

/-- A row of noughts. -/
def noughts (n : Nat) : List Int := List.replicate n 0
theorem noughts_length (n : Nat) : (noughts n).length = n := by simp [noughts]
theorem noughts_bytes (n : Nat) : Bytes (noughts n) := fun x hx => by
  simp only [noughts, List.mem_replicate] at hx
  omega
theorem made_noughts (n : Nat) : madeCells #[Value.int .u8 0] n = cells8 (noughts n) := by
  apply Array.toList_inj.1
  rw [toList_madeCells_one]
  simp [cells8, noughts]

theorem make8 (n : Int) (h0 : 0 ≤ n) (h1 : n ≤ 2000000) (w : World) :
    (Instr.makeSlice 25 (.int .i64 n) (.int .i64 n)).run Try.prog w = .ok (.slice (some ⟨w.heap.size, 0, none⟩) n.toNat n.toNat) (w.alloc (.cells (cells8 (noughts n.toNat)) 5)) := by
  obtain ⟨m, rfl⟩ : ∃ m : Nat, n = (m : Int) := ⟨n.toNat, by omega⟩
  rw [Int.toNat_natCast, ← made_noughts]
  exact run_make_row' 25 5 (.int .u8 0) 1 Try.underlying25 (by kernel_rfl) rfl .i64 .i64 m (by omega) (by omega) w

/-- May a space be so great? -/
def newOk (dict heap : Int) : Prop := 4096 ≤ dict ∧ dict ≤ 524288 ∧ 0 ≤ heap ∧ heap ≤ 524288 ∧ dict % 8 = 0 ∧ heap % 8 = 0

set_option maxHeartbeats 1000000 in
theorem New_ok (dict heap : Int) (w : World) (h : newOk dict heap) :
    Calls Try.prog 17 #[.int .i64 dict, .int .i64 heap] w fun e w' => e = .returned (.tuple #[.pointer (some ⟨w.heap.size + 1, 0, none⟩), .int .i64 0]) ∧ Fr0 w w' ∧ w'.heap.size = w.heap.size + 2 ∧ Sp w' (w.heap.size + 1) w.heap.size (noughts (12288 + dict + heap).toNat) dict 77824 := by
  obtain ⟨h1, h2, h3, h4, h5, h6⟩ := h
  have e5 : (dict % 8 != 0) = false := by simp [h5]
  have e6 : (heap % 8 != 0) = false := by simp [h6]
  clear h5 h6
  have hm := fun W => make8 (12288 + dict + heap) (by omega) (by omega) W
  go_enter Try.func17, Try.ntmps17
  go_wp2
  go_ret2
  refine ⟨rfl, ((Fr.refl _ w).alloc _).alloc _, by simp, ?_, (Blk.new w _ _).alloc _, noughts_bytes _, by rw [noughts_length]; omega⟩
  rw [noughts_length]
  have := Blk.new (w.alloc (.cells (cells8 (noughts (12288 + dict + heap).toNat)) 5)) 68 #[.slice (some ⟨w.heap.size, 0, none⟩) (12288 + dict + heap).toNat (12288 + dict + heap).toNat, .int .i64 dict, .int .i64 77824]
  simpa using this

set_option maxHeartbeats 1000000 in
theorem New_err (dict heap : Int) (w : World) (h : ¬ newOk dict heap) :
    Calls Try.prog 17 #[.int .i64 dict, .int .i64 heap] w fun e w' => e = .returned (.tuple #[.pointer none, .int .i64 1]) ∧ w = w' := by
  by_cases k1 : dict < 4096
  · go_enter Try.func17, Try.ntmps17
    go_wp2
    go_ret2
    exact ⟨rfl, rfl⟩
  have k1' : 4096 ≤ dict := by omega
  clear k1
  by_cases k2 : 524288 < dict
  · go_enter Try.func17, Try.ntmps17
    go_wp2
    go_ret2
    exact ⟨rfl, rfl⟩
  have k2' : dict ≤ 524288 := by omega
  clear k2
  by_cases k3 : heap < 0
  · go_enter Try.func17, Try.ntmps17
    go_wp2
    go_ret2
    exact ⟨rfl, rfl⟩
  have k3' : 0 ≤ heap := by omega
  clear k3
  by_cases k4 : 524288 < heap
  · go_enter Try.func17, Try.ntmps17
    go_wp2
    go_ret2
    exact ⟨rfl, rfl⟩
  have k4' : heap ≤ 524288 := by omega
  clear k4
  by_cases k5 : dict % 8 = 0
  · have e5 : (dict % 8 != 0) = false := by simp [k5]
    have e6 : (heap % 8 != 0) = true := by
      have : ¬ heap % 8 = 0 := fun k6 => h ⟨k1', k2', k3', k4', k5, k6⟩
      simp [this]
    clear h k5
    go_enter Try.func17, Try.ntmps17
    go_wp2
    go_ret2
    exact ⟨rfl, rfl⟩
  · have e5 : (dict % 8 != 0) = true := by simp [k5]
    clear h k5
    go_enter Try.func17, Try.ntmps17
    go_wp2
    go_ret2
    exact ⟨rfl, rfl⟩

end Go.Proofs.Ytmkpoemjikdoeaa
