/- The program's data space that is none, or a zero one: what its functions answer. -/
import Derived.Test.YtmkpoemjikdoeaaClear
import Derived.Test.YtmkpoemjikdoeaaMove
namespace Go.Proofs.Ytmkpoemjikdoeaa
open Go Go.RowKit

/-- No space: nil, or a zero one. -/
def NoSp (w : World) (v : Value) : Prop := v = .pointer none ∨ ∃ g, v = .pointer (some ⟨g, 0, none⟩) ∧ Blk w g 68 #[.slice none 0 0, .int .i64 0, .int .i64 0]
theorem NoSp.fr0 {w w' : World} {v : Value} (h : NoSp w v) (hf : Fr0 w w') : NoSp w' v := by
  rcases h with h | ⟨g, h, hb⟩
  · exact .inl h
  · exact .inr ⟨g, h, hb.fr0 hf⟩
theorem NoSp.alloc {w : World} {v : Value} (h : NoSp w v) (o : Obj) : NoSp (w.alloc o) v := h.fr0 ((Fr.refl _ w).alloc o)

set_option maxHeartbeats 400000 in
theorem all_none (w : World) (v : Value) (h : NoSp w v) :
    Calls Try.prog 36 #[v] w fun e w' => e = .returned (.slice none 0 0) ∧ w = w' := by
  rcases h with rfl | ⟨g, rfl, hb⟩
  · go_enter Try.func36, Try.ntmps36
    go_wp2
    go_ret
    exact ⟨rfl, rfl⟩
  · have h0 := hb.cell 0
    simp at h0
    clear hb
    go_enter Try.func36, Try.ntmps36
    go_wp2
    go_ret
    exact ⟨rfl, rfl⟩

set_option maxHeartbeats 400000 in
theorem none_none (w : World) (v : Value) (h : NoSp w v) :
    Calls Try.prog 44 #[v] w fun e w' => e = .returned (.bool true) ∧ w = w' := by
  rcases h with rfl | ⟨g, rfl, hb⟩
  · go_enter Try.func44, Try.ntmps44
    go_wp2
    go_ret
    exact ⟨rfl, rfl⟩
  · have h0 := hb.cell 2
    simp at h0
    clear hb
    go_enter Try.func44, Try.ntmps44
    go_wp2
    go_ret
    exact ⟨rfl, rfl⟩

set_option maxHeartbeats 400000 in
theorem End_none (w : World) (v : Value) (h : NoSp w v) :
    Calls Try.prog 38 #[v] w fun e w' => e = .returned (.int .i64 0) ∧ w = w' := by
  have hN := none_none w v h
  rcases h with rfl | ⟨g, rfl, hb⟩
  all_goals
    go_enter Try.func38, Try.ntmps38
    go_wp2_with (go_at_call 44; refine hN.mono ?_; rintro e w' ⟨rfl, rfl⟩)
    go_ret
    exact ⟨rfl, rfl⟩

/-- What 'reach' throws there. -/
def noT (n : Int) : Int := if n = 0 then 0 else -9
set_option maxHeartbeats 2000000 in
theorem reach_none (a n : Int) (rv : Value) (w : World) (v : Value) (h : NoSp w v) (ha : i64 a) (hn : i64 n) :
    Calls Try.prog 25 #[v, .int .i64 a, .int .i64 n, rv] w fun e w' => e = .returned (.tuple #[.slice none 0 0, .int .i64 (noT n)]) ∧ w = w' := by
  have hA := all_none w v h
  have HT := Lib.hid (show noT n = if n = 0 then 0 else -9 from rfl)
  obtain ⟨ha1, ha2⟩ := ha
  obtain ⟨hn1, hn2⟩ := hn
  rcases h with rfl | ⟨g, rfl, hb⟩
  all_goals
    by_cases h0 : n = 0
    · subst h0
      clear HT
      go_enter Try.func25, Try.ntmps25
      go_wp2_with (go_at_call 36; refine hA.mono ?_; rintro e w' ⟨rfl, rfl⟩)
      go_ret2
      exact ⟨rfl, rfl⟩
    · have ht : noT n = -9 := by unfold noT; rw [if_neg h0]
      rw [ht]
      have hn0 : (n == 0) = false := by simp; omega
      clear ht h0 HT
      by_cases hneg : n < 0
      · go_enter Try.func25, Try.ntmps25
        go_wp2_with (go_at_call 36; refine hA.mono ?_; rintro e w' ⟨rfl, rfl⟩)
        go_ret2
        exact ⟨rfl, rfl⟩
      · have hpos : 0 < n := by simp at hn0; omega
        clear hneg
        rcases (show a < 0 ∨ (0 ≤ a ∧ a < 65536) ∨ 65536 < a ∨ a = 65536 by omega) with h1 | ⟨h1, h2⟩ | h1 | h1
        · obtain ⟨A, hA', hA1⟩ : ∃ A, IntKind.u64.wrap (IntKind.u64.wrap a - 65536) = A ∧ 0 < A := ⟨_, rfl, by simp [IntKind.wrap, IntKind.bits, IntKind.signed]; omega⟩
          go_enter Try.func25, Try.ntmps25
          go_wp2_with (go_at_call 36; refine hA.mono ?_; rintro e w' ⟨rfl, rfl⟩)
          go_ret2
          exact ⟨rfl, rfl⟩
        · obtain ⟨A, hA', hA1⟩ : ∃ A, IntKind.u64.wrap (a - 65536) = A ∧ 0 < A := ⟨_, rfl, by simp [IntKind.wrap, IntKind.bits, IntKind.signed]; omega⟩
          go_enter Try.func25, Try.ntmps25
          go_wp2_with (go_at_call 36; refine hA.mono ?_; rintro e w' ⟨rfl, rfl⟩)
          go_ret2
          exact ⟨rfl, rfl⟩
        · have h2 : 0 < a - 65536 := by omega
          go_enter Try.func25, Try.ntmps25
          go_wp2_with (go_at_call 36; refine hA.mono ?_; rintro e w' ⟨rfl, rfl⟩)
          go_ret2
          exact ⟨rfl, rfl⟩
        · subst h1
          go_enter Try.func25, Try.ntmps25
          go_wp2_with (go_at_call 36; refine hA.mono ?_; rintro e w' ⟨rfl, rfl⟩)
          go_ret2
          exact ⟨rfl, rfl⟩

set_option maxRecDepth 100000 in
set_option maxHeartbeats 2000000 in
theorem System_none (a v : Int) (w : World) (s : Value) (h : NoSp w s) (ha : i64 a) :
    Calls Try.prog 23 #[s, .int .i64 a, .int .i64 v] w fun e w' => e = .returned (.tuple #[]) ∧ Fr0 w w' := by
  have hc := fun rv W (hW : Fr0 w W) => reach_none a 8 rv W s (h.fr0 hW) ha ⟨by omega, by omega⟩
  rw [show noT 8 = -9 from rfl] at hc
  have Hc := Lib.hid hc
  clear hc
  rcases h with rfl | ⟨g, rfl, hb⟩
  all_goals
    go_enter Try.func23, Try.ntmps23
    go_wp2_with (first | (go_at_call 32; refine (aligned_any 8 _).mono ?_; rintro e w' ⟨rfl, rfl⟩) | (go_at_call 25; refine (Hc.out _ _ (((Fr.refl _ w).alloc _).alloc _)).mono ?_; rintro e w' ⟨rfl, rfl⟩))
    refine wp_loop_rounds 1 ?_
    rw [rounds_succ]
    go_wp2
    go_end0
    exact ⟨rfl, ((Fr.refl _ w).alloc _).alloc _⟩

set_option maxHeartbeats 2000000 in
theorem Bytes_none (a n : Int) (w : World) (s : Value) (h : NoSp w s) (ha : i64 a) (hn : i64 n) :
    Calls Try.prog 11 #[s, .int .i64 a, .int .i64 n] w fun e w' => e = .returned (.tuple #[.slice none 0 0, .int .i64 (noT n)]) ∧ Fr0 w w' := by
  have hc := reach_none a n (.slice none 0 0) w s h ha hn
  generalize noT n = T at *
  have Hc := Lib.hid hc
  clear hc
  rcases h with rfl | ⟨g, rfl, hb⟩
  all_goals
    go_enter Try.func11, Try.ntmps11
    go_wp2_with (first | (go_at_call 25; refine Hc.out.mono ?_; rintro e w' ⟨rfl, rfl⟩) | (go_at_call 26; refine (Clone_nil _ 0 0).mono ?_; rintro e w1 ⟨rfl, rfl⟩))
    go_ret2
    exact ⟨rfl, Fr.refl _ _⟩

end Go.Proofs.Ytmkpoemjikdoeaa
