/- The table of words: its ten pieces, the first five. -/
import Derived.Test.YtoliidlaahhcpaaWrow
namespace Go.Proofs.Ytoliidlaahhcpaa
open Go Go.RowKit
set_option linter.unusedVariables false

set_option maxRecDepth 100000 in
set_option maxHeartbeats 8000000 in
theorem piece0_any (w : World) : Calls Try.prog 15 #[] w fun e w' => ∃ g, e = .returned (.slice (some ⟨g, 0, none⟩) 45 45) ∧ w.heap.size ≤ g ∧ Blk w' g 23 (cellsW tab0) ∧ Fr0 w w' := by
  have HF := Lib.hid (Fr.refl (fun _ => False) w)
  go_enter Try.func15, Try.ntmps15
  go_wp2_with (go_at_call 26; refine (row_any _ _ _ _ _ _ _ _).mono ?_; rintro e w' ⟨rfl, hf⟩; replace HF := Lib.hid (HF.out.trans hf); clear hf)
  refine wp_buildSliceTo 31 23 45 _ rfl Try.underlying31 (cellsW tab0) (by kernel_rfl) ?_
  go_wp2_with fail
  go_ret
  refine ⟨_, rfl, HF.out.size, ?_, HF.out.alloc _⟩
  exact (Blk.new _ _ _).trans (by kernel_rfl)

set_option maxRecDepth 100000 in
set_option maxHeartbeats 8000000 in
theorem piece1_any (w : World) : Calls Try.prog 16 #[] w fun e w' => ∃ g, e = .returned (.slice (some ⟨g, 0, none⟩) 45 45) ∧ w.heap.size ≤ g ∧ Blk w' g 23 (cellsW tab1) ∧ Fr0 w w' := by
  have HF := Lib.hid (Fr.refl (fun _ => False) w)
  go_enter Try.func16, Try.ntmps16
  go_wp2_with (go_at_call 26; refine (row_any _ _ _ _ _ _ _ _).mono ?_; rintro e w' ⟨rfl, hf⟩; replace HF := Lib.hid (HF.out.trans hf); clear hf)
  refine wp_buildSliceTo 31 23 45 _ rfl Try.underlying31 (cellsW tab1) (by kernel_rfl) ?_
  go_wp2_with fail
  go_ret
  refine ⟨_, rfl, HF.out.size, ?_, HF.out.alloc _⟩
  exact (Blk.new _ _ _).trans (by kernel_rfl)

set_option maxRecDepth 100000 in
set_option maxHeartbeats 8000000 in
theorem piece2_any (w : World) : Calls Try.prog 17 #[] w fun e w' => ∃ g, e = .returned (.slice (some ⟨g, 0, none⟩) 45 45) ∧ w.heap.size ≤ g ∧ Blk w' g 23 (cellsW tab2) ∧ Fr0 w w' := by
  have HF := Lib.hid (Fr.refl (fun _ => False) w)
  go_enter Try.func17, Try.ntmps17
  go_wp2_with (go_at_call 26; refine (row_any _ _ _ _ _ _ _ _).mono ?_; rintro e w' ⟨rfl, hf⟩; replace HF := Lib.hid (HF.out.trans hf); clear hf)
  refine wp_buildSliceTo 31 23 45 _ rfl Try.underlying31 (cellsW tab2) (by kernel_rfl) ?_
  go_wp2_with fail
  go_ret
  refine ⟨_, rfl, HF.out.size, ?_, HF.out.alloc _⟩
  exact (Blk.new _ _ _).trans (by kernel_rfl)

set_option maxRecDepth 100000 in
set_option maxHeartbeats 8000000 in
theorem piece3_any (w : World) : Calls Try.prog 18 #[] w fun e w' => ∃ g, e = .returned (.slice (some ⟨g, 0, none⟩) 45 45) ∧ w.heap.size ≤ g ∧ Blk w' g 23 (cellsW tab3) ∧ Fr0 w w' := by
  have HF := Lib.hid (Fr.refl (fun _ => False) w)
  go_enter Try.func18, Try.ntmps18
  go_wp2_with (go_at_call 26; refine (row_any _ _ _ _ _ _ _ _).mono ?_; rintro e w' ⟨rfl, hf⟩; replace HF := Lib.hid (HF.out.trans hf); clear hf)
  refine wp_buildSliceTo 31 23 45 _ rfl Try.underlying31 (cellsW tab3) (by kernel_rfl) ?_
  go_wp2_with fail
  go_ret
  refine ⟨_, rfl, HF.out.size, ?_, HF.out.alloc _⟩
  exact (Blk.new _ _ _).trans (by kernel_rfl)

set_option maxRecDepth 100000 in
set_option maxHeartbeats 8000000 in
theorem piece4_any (w : World) : Calls Try.prog 19 #[] w fun e w' => ∃ g, e = .returned (.slice (some ⟨g, 0, none⟩) 45 45) ∧ w.heap.size ≤ g ∧ Blk w' g 23 (cellsW tab4) ∧ Fr0 w w' := by
  have HF := Lib.hid (Fr.refl (fun _ => False) w)
  go_enter Try.func19, Try.ntmps19
  go_wp2_with (go_at_call 26; refine (row_any _ _ _ _ _ _ _ _).mono ?_; rintro e w' ⟨rfl, hf⟩; replace HF := Lib.hid (HF.out.trans hf); clear hf)
  refine wp_buildSliceTo 31 23 45 _ rfl Try.underlying31 (cellsW tab4) (by kernel_rfl) ?_
  go_wp2_with fail
  go_ret
  refine ⟨_, rfl, HF.out.size, ?_, HF.out.alloc _⟩
  exact (Blk.new _ _ _).trans (by kernel_rfl)

end Go.Proofs.Ytoliidlaahhcpaa
