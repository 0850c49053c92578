/- The table of words: its ten pieces, the last five. -/
import Derived.Test.YtoliidlaahhcpaaWrow
namespace Go.Proofs.Ytoliidlaahhcpaa
open Go Go.RowKit
set_option linter.unusedVariables false

set_option maxRecDepth 100000 in
set_option maxHeartbeats 8000000 in
theorem piece5_any (w : World) : Calls Try.prog 20 #[] w fun e w' => ∃ g, e = .returned (.slice (some ⟨g, 0, none⟩) 45 45) ∧ w.heap.size ≤ g ∧ Blk w' g 23 (cellsW tab5) ∧ Fr0 w w' := by
  have HF := Lib.hid (Fr.refl (fun _ => False) w)
  go_enter Try.func20, Try.ntmps20
  go_wp2_with (go_at_call 26; refine (row_any _ _ _ _ _ _ _ _).mono ?_; rintro e w' ⟨rfl, hf⟩; replace HF := Lib.hid (HF.out.trans hf); clear hf)
  refine wp_buildSliceTo 31 23 45 _ rfl Try.underlying31 (cellsW tab5) (by kernel_rfl) ?_
  go_wp2_with fail
  go_ret
  refine ⟨_, rfl, HF.out.size, ?_, HF.out.alloc _⟩
  exact (Blk.new _ _ _).trans (by kernel_rfl)

set_option maxRecDepth 100000 in
set_option maxHeartbeats 8000000 in
theorem piece6_any (w : World) : Calls Try.prog 21 #[] w fun e w' => ∃ g, e = .returned (.slice (some ⟨g, 0, none⟩) 45 45) ∧ w.heap.size ≤ g ∧ Blk w' g 23 (cellsW tab6) ∧ Fr0 w w' := by
  have HF := Lib.hid (Fr.refl (fun _ => False) w)
  go_enter Try.func21, Try.ntmps21
  go_wp2_with (go_at_call 26; refine (row_any _ _ _ _ _ _ _ _).mono ?_; rintro e w' ⟨rfl, hf⟩; replace HF := Lib.hid (HF.out.trans hf); clear hf)
  refine wp_buildSliceTo 31 23 45 _ rfl Try.underlying31 (cellsW tab6) (by kernel_rfl) ?_
  go_wp2_with fail
  go_ret
  refine ⟨_, rfl, HF.out.size, ?_, HF.out.alloc _⟩
  exact (Blk.new _ _ _).trans (by kernel_rfl)

set_option maxRecDepth 100000 in
set_option maxHeartbeats 8000000 in
theorem piece7_any (w : World) : Calls Try.prog 22 #[] w fun e w' => ∃ g, e = .returned (.slice (some ⟨g, 0, none⟩) 45 45) ∧ w.heap.size ≤ g ∧ Blk w' g 23 (cellsW tab7) ∧ Fr0 w w' := by
  have HF := Lib.hid (Fr.refl (fun _ => False) w)
  go_enter Try.func22, Try.ntmps22
  go_wp2_with (go_at_call 26; refine (row_any _ _ _ _ _ _ _ _).mono ?_; rintro e w' ⟨rfl, hf⟩; replace HF := Lib.hid (HF.out.trans hf); clear hf)
  refine wp_buildSliceTo 31 23 45 _ rfl Try.underlying31 (cellsW tab7) (by kernel_rfl) ?_
  go_wp2_with fail
  go_ret
  refine ⟨_, rfl, HF.out.size, ?_, HF.out.alloc _⟩
  exact (Blk.new _ _ _).trans (by kernel_rfl)

set_option maxRecDepth 100000 in
set_option maxHeartbeats 8000000 in
theorem piece8_any (w : World) : Calls Try.prog 23 #[] w fun e w' => ∃ g, e = .returned (.slice (some ⟨g, 0, none⟩) 45 45) ∧ w.heap.size ≤ g ∧ Blk w' g 23 (cellsW tab8) ∧ Fr0 w w' := by
  have HF := Lib.hid (Fr.refl (fun _ => False) w)
  go_enter Try.func23, Try.ntmps23
  go_wp2_with (go_at_call 26; refine (row_any _ _ _ _ _ _ _ _).mono ?_; rintro e w' ⟨rfl, hf⟩; replace HF := Lib.hid (HF.out.trans hf); clear hf)
  refine wp_buildSliceTo 31 23 45 _ rfl Try.underlying31 (cellsW tab8) (by kernel_rfl) ?_
  go_wp2_with fail
  go_ret
  refine ⟨_, rfl, HF.out.size, ?_, HF.out.alloc _⟩
  exact (Blk.new _ _ _).trans (by kernel_rfl)

set_option maxRecDepth 100000 in
set_option maxHeartbeats 8000000 in
theorem piece9_any (w : World) : Calls Try.prog 24 #[] w fun e w' => ∃ g, e = .returned (.slice (some ⟨g, 0, none⟩) 16 16) ∧ w.heap.size ≤ g ∧ Blk w' g 23 (cellsW tab9) ∧ Fr0 w w' := by
  have HF := Lib.hid (Fr.refl (fun _ => False) w)
  go_enter Try.func24, Try.ntmps24
  go_wp2_with (go_at_call 26; refine (row_any _ _ _ _ _ _ _ _).mono ?_; rintro e w' ⟨rfl, hf⟩; replace HF := Lib.hid (HF.out.trans hf); clear hf)
  go_ret
  refine ⟨_, rfl, HF.out.size, ?_, HF.out.alloc _⟩
  exact (Blk.new _ _ _).trans (by kernel_rfl)

end Go.Proofs.Ytoliidlaahhcpaa
