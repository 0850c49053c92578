/- The program's data space that is none, or a zero one: fetching, moving, filling. -/
import Derived.Test.YtkgihajpobajaaaNone
import Derived.Test.YtkgihajpobajaaaClear
namespace Go.Proofs.Ytkgihajpobajaaa
open Go Go.RowKit

set_option maxHeartbeats 2000000 in
theorem Move_none (f t n : Int) (w : World) (s : Value) (h : NoSp w s) (hf : i64 f) (ht : i64 t) (hn : i64 n) :
    Calls Try.prog 21 #[s, .int .i64 f, .int .i64 t, .int .i64 n] w fun e w' => e = .returned (.int .i64 (noT n)) ∧ Fr0 w w' := by
  have hc := both_none f t n w s h hf ht hn
  generalize noT n = T at *
  have HB := Lib.hid hc
  clear hc
  rcases h with rfl | ⟨g, rfl, hb⟩
  all_goals
    go_enter Try.func21, Try.ntmps21
    go_wp2_with (first | (go_at_call 37; refine HB.out.mono ?_; rintro e w1 ⟨rfl, hw1⟩) | (refine wpList_copy_nothing rfl (.tmp 21) (.tmp 22) _ _ rfl _ Try.underlying32 (by kernel_rfl) none none 0 0 0 0 rfl rfl rfl ?_))
    go_ret
    exact ⟨rfl, hw1⟩

set_option maxHeartbeats 2000000 in
theorem Fill_none (a n v : Int) (w : World) (s : Value) (h : NoSp w s) (ha : i64 a) (hn : i64 n) :
    Calls Try.prog 27 #[s, .int .i64 a, .int .i64 n, .int .i64 v] w fun e w' => e = .returned (.int .i64 (noT n)) ∧ Fr0 w w' := by
  have hc := fun rv W (hW : Fr0 w W) => reach_none a n rv W s (h.fr0 hW) ha hn
  generalize noT n = T at *
  have Hc := Lib.hid hc
  clear hc
  obtain ⟨x, hx⟩ : ∃ x, IntKind.u8.wrap v = x := ⟨_, rfl⟩
  cases hx0 : (x == 0)
  · rcases h with rfl | ⟨g, rfl, hb⟩
    all_goals
      go_enter Try.func27, Try.ntmps27
      go_wp2_with (go_at_call 33; refine (Hc.out _ _ ((Fr.refl _ w).alloc _)).mono ?_; rintro e w' ⟨rfl, rfl⟩)
      refine wp_loop_rounds 1 ?_
      rw [rounds_succ]
      go_wp2
      go_ret
      exact ⟨rfl, (Fr.refl _ w).alloc _⟩
  · rcases h with rfl | ⟨g, rfl, hb⟩
    all_goals
      go_enter Try.func27, Try.ntmps27
      go_wp2_with (first | (go_at_call 33; refine (Hc.out _ _ ((Fr.refl _ w).alloc _)).mono ?_; rintro e w' ⟨rfl, rfl⟩) | (refine wpList_clear_none rfl (.tmp 23) 32 rfl _ Try.underlying32 rfl ?_))
      go_ret
      exact ⟨rfl, (Fr.refl _ w).alloc _⟩
end Go.Proofs.Ytkgihajpobajaaa
