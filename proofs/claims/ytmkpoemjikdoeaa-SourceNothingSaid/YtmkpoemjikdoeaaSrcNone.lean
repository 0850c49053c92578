/- The program's source that is none. -/
import Derived.Test.YtmkpoemjikdoeaaSrcAwake
namespace Go.Proofs.Ytmkpoemjikdoeaa
open Go Go.RowKit
set_option linter.unusedVariables false

/-- No source: nil, or one over no space. -/
def NoSrc (w : World) (v : Value) : Prop := v = .pointer none ∨ ∃ g, v = .pointer (some ⟨g, 0, none⟩) ∧ Blk w g 60 #[.pointer none, .int .i64 0, .int .i64 0, .int .i64 0, .int .i64 0, .int .i64 0]
theorem NoSrc.fr0 {w w' : World} {v : Value} (h : NoSrc w v) (hf : Fr0 w w') : NoSrc w' v := by
  rcases h with h | ⟨g, h, hb⟩
  · exact .inl h
  · exact .inr ⟨g, h, hb.fr0 hf⟩

set_option maxHeartbeats 400000 in
theorem none_no (w : World) (v : Value) (h : NoSrc w v) :
    Calls Try.prog 20 #[v] w fun e w' => e = .returned (.bool true) ∧ w = w' := by
  rcases h with rfl | ⟨g, rfl, hb⟩
  · go_enter Try.func20, Try.ntmps20
    go_wp2
    go_ret
    exact ⟨rfl, rfl⟩
  · have h0 := hb.cell 0
    simp at h0
    clear hb
    go_enter Try.func20, Try.ntmps20
    go_wp2
    go_ret
    exact ⟨rfl, rfl⟩
set_option maxHeartbeats 400000 in
theorem Parse_no (d : Int) (w : World) (v : Value) (h : NoSrc w v) :
    Calls Try.prog 13 #[v, .int .i64 d] w fun e w' => e = .returned (.tuple #[.int .i64 0, .int .i64 0]) ∧ w = w' := by
  have hN := none_no w v h
  rcases h with rfl | ⟨g, rfl, hb⟩
  all_goals
    go_enter Try.func13, Try.ntmps13
    go_wp2_with (go_at_call 20; refine hN.mono ?_; rintro e w' ⟨rfl, rfl⟩)
    go_ret2
    exact ⟨rfl, rfl⟩
set_option maxHeartbeats 400000 in
theorem Skip_no (d : Int) (w : World) (v : Value) (h : NoSrc w v) :
    Calls Try.prog 24 #[v, .int .i64 d] w fun e w' => e = .returned (.tuple #[.int .i64 0, .int .i64 0]) ∧ w = w' := by
  have hN := none_no w v h
  rcases h with rfl | ⟨g, rfl, hb⟩
  all_goals
    go_enter Try.func24, Try.ntmps24
    go_wp2_with (go_at_call 20; refine hN.mono ?_; rintro e w' ⟨rfl, rfl⟩)
    go_ret2
    exact ⟨rfl, rfl⟩
set_option maxHeartbeats 400000 in
theorem Name_no (w : World) (v : Value) (h : NoSrc w v) :
    Calls Try.prog 10 #[v] w fun e w' => e = .returned (.tuple #[.int .i64 0, .int .i64 0]) ∧ w = w' := by
  have hN := Skip_no 32 w v h
  rcases h with rfl | ⟨g, rfl, hb⟩
  all_goals
    go_enter Try.func10, Try.ntmps10
    go_wp2_with (go_at_call 24; refine hN.mono ?_; rintro e w' ⟨rfl, rfl⟩)
    go_ret2
    exact ⟨rfl, rfl⟩
set_option maxHeartbeats 400000 in
theorem Left_no (w : World) (v : Value) (h : NoSrc w v) :
    Calls Try.prog 14 #[v] w fun e w' => e = .returned (.slice none 0 0) ∧ w = w' := by
  have hN := none_no w v h
  rcases h with rfl | ⟨g, rfl, hb⟩
  all_goals
    go_enter Try.func14, Try.ntmps14
    go_wp2_with (go_at_call 20; refine hN.mono ?_; rintro e w' ⟨rfl, rfl⟩)
    go_ret
    exact ⟨rfl, rfl⟩
set_option maxHeartbeats 400000 in
theorem Lay_no (w : World) (v sv : Value) (h : NoSrc w v) :
    Calls Try.prog 9 #[v, sv] w fun e w' => e = .returned (.int .i64 0) ∧ w = w' := by
  have hN := none_no w v h
  rcases h with rfl | ⟨g, rfl, hb⟩
  all_goals
    go_enter Try.func9, Try.ntmps9
    go_wp2_with (go_at_call 20; refine hN.mono ?_; rintro e w' ⟨rfl, rfl⟩)
    go_ret
    exact ⟨rfl, rfl⟩
set_option maxHeartbeats 1000000 in
theorem Now_no (w : World) (v : Value) (h : NoSrc w v) :
    Calls Try.prog 15 #[v] w fun e w' => e = .returned (.agg #[.int .i64 0, .int .i64 0, .int .i64 0, .int .i64 0, .int .i64 0]) ∧ Fr0 w w' := by
  have hN := Lib.hid (fun W (hW : Fr0 w W) => none_no W v (h.fr0 hW))
  rcases h with rfl | ⟨g, rfl, hb⟩
  all_goals
    go_enter Try.func15, Try.ntmps15
    go_wp2_with (go_at_call 20; refine (hN.out _ ((Fr.refl _ w).alloc _)).mono ?_; rintro e w' ⟨rfl, rfl⟩)
    exact bodyPost_ret (v := .agg #[.int .i64 0, .int .i64 0, .int .i64 0, .int .i64 0, .int .i64 0]) (by simp [results, Try.results15, go_sem]) rfl ⟨rfl, (Fr.refl _ w).alloc _⟩
set_option maxHeartbeats 1000000 in
theorem New_no (w : World) :
    Calls Try.prog 12 #[.pointer none] w fun e w' => ∃ c, e = .returned (.pointer (some ⟨c, 0, none⟩)) ∧ Fr0 w w' ∧ NoSrc w' (.pointer (some ⟨c, 0, none⟩)) := by
  have hS := Lib.hid (System_none 65552 0 w (.pointer none) (.inl rfl) ⟨by omega, by omega⟩)
  go_enter Try.func12, Try.ntmps12
  go_wp2_with (go_at_call 23; refine hS.out.mono ?_; rintro e w1 ⟨rfl, hf1⟩)
  go_ret
  exact ⟨_, rfl, hf1.alloc _, .inr ⟨_, rfl, Blk.new _ _ _⟩⟩
end Go.Proofs.Ytmkpoemjikdoeaa
