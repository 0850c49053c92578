/- The walk of FlowNothing. -/
import Derived.Test.YtoldegajbonliaaFidle
namespace Go.Proofs.Ytoldegajbonliaa
open Go Go.RowKit
set_option linter.unusedVariables false
attribute [local go_sem] Oper.semAt_some

set_option maxRecDepth 100000 in
theorem Def_nil (w : World) : Calls Try.prog 16 #[.pointer none] w fun e w' => e = .returned (.int .i64 0) ∧ w = w' := by
  go_enter Try.func16, Try.ntmps16
  go_wp2_with fail
  go_ret
  exact ⟨rfl, rfl⟩
set_option maxRecDepth 100000 in
set_option maxHeartbeats 8000000 in
theorem nothing_walk (n u : Int) (w : World) (hn : -9223372036854775808 ≤ n ∧ n ≤ 9223372036854775807) (hu : -9223372036854775808 ≤ u ∧ u ≤ 9223372036854775807) : Calls Try.prog 5 #[.int .i64 n, .int .i64 u] w fun e w' => e = .returned (.bool true) ∧ Fr0 w w' := by
  clear hn hu
  go_enter Try.func5, Try.ntmps5
  go_wp2_with fail
  go_at_call 22
  refine (New_f _ (.inl rfl) _).mono ?_
  rintro e w1 ⟨f1, rfl, h1, _, hf1⟩
  go_wp2_with fail
  go_at_call 23
  refine (New_p _).mono ?_
  rintro e w2 ⟨p, rfl, hp, _, hf2⟩
  go_wp2_with fail
  go_at_call 22
  refine (New_f _ (.inr ⟨_, rfl⟩) _).mono ?_
  rintro e w3 ⟨f2, rfl, h2, _, hf3⟩
  have hb0 := Blk.new w3 27 #[.pointer none, .pointer (some ⟨f1, 0, none⟩), .pointer (some ⟨f2, 0, none⟩)]
  have ha := (Fr.refl (fun _ => False) w3).alloc (.cells #[.pointer none, .pointer (some ⟨f1, 0, none⟩), .pointer (some ⟨f2, 0, none⟩)] 27)
  have hfa := ((hf1.trans hf2).trans hf3).trans ha
  have hi1 := Idle.noPool f1 (((h1.fr0 hf2).fr0 hf3).fr0 ha)
  have hi2 := Idle.idle f2 p (h2.fr0 ha)
  obtain ⟨g, hg⟩ : ∃ g, w3.heap.size = g := ⟨_, rfl⟩
  rw [hg] at hb0
  have HG := Lib.hid hg
  have HB0 := Lib.hid (And.intro hb0 (And.intro hfa (And.intro hi1 hi2)))
  clear hb0 hfa hi1 hi2 ha h1 h2 hp hf1 hf2 hf3 hg
  go_wp2_with fail
  rw [HG.out]
  go_loopw [7] (fun i wr => ∃ j : Nat, j ≤ 3 ∧ i = .int .i64 j ∧ Fr0 w wr ∧ Blk wr g 27 #[.pointer none, .pointer (some ⟨f1, 0, none⟩), .pointer (some ⟨f2, 0, none⟩)] ∧ Idle wr (.pointer (some ⟨f1, 0, none⟩)) true ∧ Idle wr (.pointer (some ⟨f2, 0, none⟩)) false) (fun i _ => 3 - (intOf i).toNat)
  case atStart => exact ⟨0, by omega, rfl, HB0.out.2.1, HB0.out.1, HB0.out.2.2.1, HB0.out.2.2.2⟩
  case round =>
    obtain ⟨j, hj, rfl, hff, hbx, hi1, hi2⟩ := hrel
    by_cases hlt : j < 3
    · obtain rfl | rfl | rfl : j = 0 ∨ j = 1 ∨ j = 2 := by omega
      · have hid := Idle.none_ (w := wr)
        have hc : wr.cell? ⟨g, 0, none⟩ = some _ := hbx.cell 0
        go_wp2_with (first | (go_at_call 12; refine (Do_e _ _ hid).mono ?_; rintro e w2 ⟨rfl, hf2⟩; have hid := hid.fr0 hf2; have hff := hff.trans hf2; have hbx := hbx.fr0 hf2; have hi1 := hi1.fr0 hf2; have hi2 := hi2.fr0 hf2; clear hf2) | (go_at_call 24; refine (Pick_e _ _ hid).mono ?_; rintro e w2 ⟨rfl, rfl⟩) | (go_at_call 25; refine (Roll_e _ _ hid).mono ?_; rintro e w2 ⟨rfl, rfl⟩) | (go_at_call 15; refine (Finish_e _ hid).mono ?_; rintro e w2 ⟨rfl, rfl⟩) | (go_at_call 14; refine (Depth_e _ hid).mono ?_; rintro e w2 ⟨rfl, rfl⟩) | (go_at_call 26; refine (Kinds_e _ hid).mono ?_; rintro e w2 ⟨rfl, rfl⟩))
        exact ⟨⟨1, by omega, rfl, hff, hbx, hi1, hi2⟩, by simp [intOf]⟩
      · have hid := hi1
        have hc : wr.cell? ⟨g, 1, none⟩ = some _ := hbx.cell 1
        go_wp2_with (first | (go_at_call 12; refine (Do_e _ _ hid).mono ?_; rintro e w2 ⟨rfl, hf2⟩; have hid := hid.fr0 hf2; have hff := hff.trans hf2; have hbx := hbx.fr0 hf2; have hi1 := hi1.fr0 hf2; have hi2 := hi2.fr0 hf2; clear hf2) | (go_at_call 24; refine (Pick_e _ _ hid).mono ?_; rintro e w2 ⟨rfl, rfl⟩) | (go_at_call 25; refine (Roll_e _ _ hid).mono ?_; rintro e w2 ⟨rfl, rfl⟩) | (go_at_call 15; refine (Finish_e _ hid).mono ?_; rintro e w2 ⟨rfl, rfl⟩) | (go_at_call 14; refine (Depth_e _ hid).mono ?_; rintro e w2 ⟨rfl, rfl⟩) | (go_at_call 26; refine (Kinds_e _ hid).mono ?_; rintro e w2 ⟨rfl, rfl⟩))
        exact ⟨⟨2, by omega, rfl, hff, hbx, hi1, hi2⟩, by simp [intOf]⟩
      · have hid := hi2
        have hc : wr.cell? ⟨g, 2, none⟩ = some _ := hbx.cell 2
        go_wp2_with (first | (go_at_call 12; refine (Do_e _ _ hid).mono ?_; rintro e w2 ⟨rfl, hf2⟩; have hid := hid.fr0 hf2; have hff := hff.trans hf2; have hbx := hbx.fr0 hf2; have hi1 := hi1.fr0 hf2; have hi2 := hi2.fr0 hf2; clear hf2) | (go_at_call 24; refine (Pick_e _ _ hid).mono ?_; rintro e w2 ⟨rfl, rfl⟩) | (go_at_call 25; refine (Roll_e _ _ hid).mono ?_; rintro e w2 ⟨rfl, rfl⟩) | (go_at_call 15; refine (Finish_e _ hid).mono ?_; rintro e w2 ⟨rfl, rfl⟩) | (go_at_call 14; refine (Depth_e _ hid).mono ?_; rintro e w2 ⟨rfl, rfl⟩) | (go_at_call 26; refine (Kinds_e _ hid).mono ?_; rintro e w2 ⟨rfl, rfl⟩))
        exact ⟨⟨3, by omega, rfl, hff, hbx, hi1, hi2⟩, by simp [intOf]⟩
    · obtain rfl : j = 3 := by omega
      go_wp2_with (first | (go_at_call 16; refine (Def_nil _).mono ?_; rintro e w2 ⟨rfl, rfl⟩) | (go_at_call 7; refine (awake16 _).mono ?_; rintro e w2 ⟨rfl, hf2⟩))
      go_ret
      exact ⟨rfl, hff.trans hf2⟩
end Go.Proofs.Ytoldegajbonliaa
