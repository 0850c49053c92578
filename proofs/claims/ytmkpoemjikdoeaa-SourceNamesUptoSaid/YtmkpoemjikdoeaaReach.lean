/- The program's data space: what 'reach' answers. -/
import Derived.Test.YtmkpoemjikdoeaaSpa
namespace Go.Proofs.Ytmkpoemjikdoeaa
open Go Go.RowKit

/-- What 'reach' throws: r is what the rules say. -/
def reachT (L : Nat) (a n r : Int) : Int := if n < 0 then -9 else if n = 0 then 0 else if 65536 ≤ a ∧ a + n ≤ 65536 + L then r else -9
/-- The bytes that it hands back. -/
def reachV (g L : Nat) (a n r : Int) : Value := if 0 < n ∧ reachT L a n r = 0 then .slice (some ⟨g, (a - 65536).toNat, none⟩) n.toNat n.toNat else .slice none 0 0

section
variable {p g : Nat} {bs : List Int} {dict here : Int}
set_option maxHeartbeats 1000000 in
theorem reach_less (a n : Int) (rv : Value) (w : World) (h : Sp w p g bs dict here) (h1 : n < 0) :
    Calls Try.prog 25 #[.pointer (some ⟨p, 0, none⟩), .int .i64 a, .int .i64 n, rv] w fun e w' => e = .returned (.tuple #[.slice none 0 0, .int .i64 (-9)]) ∧ w = w' := by
  go_enter Try.func25, Try.ntmps25
  go_wp2_with (go_at_call 36; refine (all_any _ h).mono ?_; rintro e w' ⟨rfl, rfl⟩)
  go_ret2
  exact ⟨rfl, rfl⟩

set_option maxHeartbeats 1000000 in
theorem reach_zero (a : Int) (rv : Value) (w : World) (h : Sp w p g bs dict here) :
    Calls Try.prog 25 #[.pointer (some ⟨p, 0, none⟩), .int .i64 a, .int .i64 0, rv] w fun e w' => e = .returned (.tuple #[.slice none 0 0, .int .i64 0]) ∧ w = w' := by
  go_enter Try.func25, Try.ntmps25
  go_wp2_with (go_at_call 36; refine (all_any _ h).mono ?_; rintro e w' ⟨rfl, rfl⟩)
  go_ret2
  exact ⟨rfl, rfl⟩

set_option maxHeartbeats 1000000 in
theorem reach_neg (a n : Int) (rv : Value) (w : World) (h : Sp w p g bs dict here) (ha : a < 0) (ha' : -9223372036854775808 ≤ a)
    (h1 : 1 ≤ n) (h2 : n ≤ 9223372036854775807) :
    Calls Try.prog 25 #[.pointer (some ⟨p, 0, none⟩), .int .i64 a, .int .i64 n, rv] w fun e w' => e = .returned (.tuple #[.slice none 0 0, .int .i64 (-9)]) ∧ w = w' := by
  have hl := h.len
  have hn0 : (n == 0) = false := by simp; omega
  obtain ⟨A, hA, hA1⟩ : ∃ A, IntKind.u64.wrap (IntKind.u64.wrap a - 65536) = A ∧ (bs.length : Int) < A := ⟨_, rfl, by simp [IntKind.wrap, IntKind.bits, IntKind.signed]; omega⟩
  go_enter Try.func25, Try.ntmps25
  go_wp2_with (go_at_call 36; refine (all_any _ h).mono ?_; rintro e w' ⟨rfl, rfl⟩)
  go_ret2
  exact ⟨rfl, rfl⟩

set_option maxHeartbeats 1000000 in
theorem reach_low (a n : Int) (rv : Value) (w : World) (h : Sp w p g bs dict here) (ha : 0 ≤ a) (ha' : a < 65536)
    (h1 : 1 ≤ n) (h2 : n ≤ 9223372036854775807) :
    Calls Try.prog 25 #[.pointer (some ⟨p, 0, none⟩), .int .i64 a, .int .i64 n, rv] w fun e w' => e = .returned (.tuple #[.slice none 0 0, .int .i64 (-9)]) ∧ w = w' := by
  have hl := h.len
  have hn0 : (n == 0) = false := by simp; omega
  obtain ⟨A, hA, hA1⟩ : ∃ A, IntKind.u64.wrap (a - 65536) = A ∧ (bs.length : Int) < A := ⟨_, rfl, by simp [IntKind.wrap, IntKind.bits, IntKind.signed]; omega⟩
  go_enter Try.func25, Try.ntmps25
  go_wp2_with (go_at_call 36; refine (all_any _ h).mono ?_; rintro e w' ⟨rfl, rfl⟩)
  go_ret2
  exact ⟨rfl, rfl⟩

set_option maxHeartbeats 1000000 in
theorem reach_high (a n : Int) (rv : Value) (w : World) (h : Sp w p g bs dict here) (ha : 65536 ≤ a) (ha' : a ≤ 9223372036854775807)
    (h1 : 1 ≤ n) (h2 : n ≤ 9223372036854775807) (ho : 65536 + bs.length < a + n) :
    Calls Try.prog 25 #[.pointer (some ⟨p, 0, none⟩), .int .i64 a, .int .i64 n, rv] w fun e w' => e = .returned (.tuple #[.slice none 0 0, .int .i64 (-9)]) ∧ w = w' := by
  have hl := h.len
  have hn0 : (n == 0) = false := by simp; omega
  by_cases hk : (bs.length : Int) < a - 65536
  · go_enter Try.func25, Try.ntmps25
    go_wp2_with (go_at_call 36; refine (all_any _ h).mono ?_; rintro e w' ⟨rfl, rfl⟩)
    go_ret2
    exact ⟨rfl, rfl⟩
  · have hk' : a - 65536 ≤ bs.length := by omega
    clear hk
    go_enter Try.func25, Try.ntmps25
    go_wp2_with (go_at_call 36; refine (all_any _ h).mono ?_; rintro e w' ⟨rfl, rfl⟩)
    go_ret2
    exact ⟨rfl, rfl⟩

set_option maxHeartbeats 1000000 in
theorem reach_in0 (a n : Int) (w : World) (h : Sp w p g bs dict here) (ha : 65536 ≤ a) (h1 : 1 ≤ n) (hi : a + n ≤ 65536 + bs.length) :
    Calls Try.prog 25 #[.pointer (some ⟨p, 0, none⟩), .int .i64 a, .int .i64 n, .slice none 0 0] w fun e w' => e = .returned (.tuple #[.slice (some ⟨g, (a - 65536).toNat, none⟩) n.toNat n.toNat, .int .i64 0]) ∧ w = w' := by
  have hl := h.len
  have hn0 : (n == 0) = false := by simp; omega
  go_enter Try.func25, Try.ntmps25
  go_wp2_with (go_at_call 36; refine (all_any _ h).mono ?_; rintro e w' ⟨rfl, rfl⟩)
  refine wp_loop_rounds 1 ?_
  rw [rounds_succ]
  go_wp2
  go_ret2
  exact ⟨rfl, rfl⟩

set_option maxHeartbeats 1000000 in
theorem reach_in1 (a n : Int) (x : Nat) (w : World) (h : Sp w p g bs dict here) (ha : 65536 ≤ a) (h1 : 1 ≤ n) (hi : a + n ≤ 65536 + bs.length) (hx : Blk w x 75 #[.func (.func 31) #[] #[]]) (ho : openT a n = 0) :
    Calls Try.prog 25 #[.pointer (some ⟨p, 0, none⟩), .int .i64 a, .int .i64 n, .slice (some ⟨x, 0, none⟩) 1 1] w fun e w' => e = .returned (.tuple #[.slice (some ⟨g, (a - 65536).toNat, none⟩) n.toNat n.toNat, .int .i64 0]) ∧ w = w' := by
  have hl := h.len
  have hn0 : (n == 0) = false := by simp; omega
  have hc := hx.cell 0
  simp at hc
  go_enter Try.func25, Try.ntmps25
  go_wp2_with (go_at_call 36; refine (all_any _ h).mono ?_; rintro e w' ⟨rfl, rfl⟩)
  refine wp_loop_rounds 2 ?_
  rw [rounds_succ]
  go_wp2_with (go_at_call 31; refine (open_any a n _ ha (by omega) (by omega) (by omega)).mono ?_; rintro e w' ⟨rfl, rfl⟩)
  rw [rounds_succ]
  go_wp2
  go_ret2
  exact ⟨rfl, rfl⟩

set_option maxHeartbeats 1000000 in
theorem reach_in1b (a n : Int) (x : Nat) (w : World) (h : Sp w p g bs dict here) (ha : 65536 ≤ a) (h1 : 1 ≤ n) (hi : a + n ≤ 65536 + bs.length) (hx : Blk w x 75 #[.func (.func 31) #[] #[]]) (ho : (openT a n != 0) = true) :
    Calls Try.prog 25 #[.pointer (some ⟨p, 0, none⟩), .int .i64 a, .int .i64 n, .slice (some ⟨x, 0, none⟩) 1 1] w fun e w' => e = .returned (.tuple #[.slice none 0 0, .int .i64 (openT a n)]) ∧ w = w' := by
  have hl := h.len
  have hn0 : (n == 0) = false := by simp; omega
  have hc := hx.cell 0
  simp at hc
  go_enter Try.func25, Try.ntmps25
  go_wp2_with (go_at_call 36; refine (all_any _ h).mono ?_; rintro e w' ⟨rfl, rfl⟩)
  refine wp_loop_rounds 1 ?_
  rw [rounds_succ]
  go_wp2_with (go_at_call 31; refine (open_any a n _ ha (by omega) (by omega) (by omega)).mono ?_; rintro e w' ⟨rfl, rfl⟩)
  go_ret2
  exact ⟨rfl, rfl⟩

set_option maxHeartbeats 1000000 in
theorem reach_inA (a n : Int) (k : Int) (x y : Nat) (w : World) (h : Sp w p g bs dict here) (ha : 65536 ≤ a) (h1 : 1 ≤ n) (hi : a + n ≤ 65536 + bs.length) (hk : 1 ≤ k) (hy : Blk w y 3 #[.int .i64 k]) (hx : Blk w x 75 #[.func (.func 41) #[] #[.pointer (some ⟨y, 0, none⟩)]]) (ho : alignT k a = 0) :
    Calls Try.prog 25 #[.pointer (some ⟨p, 0, none⟩), .int .i64 a, .int .i64 n, .slice (some ⟨x, 0, none⟩) 1 1] w fun e w' => e = .returned (.tuple #[.slice (some ⟨g, (a - 65536).toNat, none⟩) n.toNat n.toNat, .int .i64 0]) ∧ w = w' := by
  have hl := h.len
  have hn0 : (n == 0) = false := by simp; omega
  have hc := hx.cell 0
  simp at hc
  go_enter Try.func25, Try.ntmps25
  go_wp2_with (go_at_call 36; refine (all_any _ h).mono ?_; rintro e w' ⟨rfl, rfl⟩)
  refine wp_loop_rounds 2 ?_
  rw [rounds_succ]
  go_wp2_with (go_at_call 41; refine (aligned1_any a n k y _ (by omega) hk hy).mono ?_; rintro e w' ⟨rfl, rfl⟩)
  rw [rounds_succ]
  go_wp2
  go_ret2
  exact ⟨rfl, rfl⟩

set_option maxHeartbeats 1000000 in
theorem reach_inAb (a n : Int) (k : Int) (x y : Nat) (w : World) (h : Sp w p g bs dict here) (ha : 65536 ≤ a) (h1 : 1 ≤ n) (hi : a + n ≤ 65536 + bs.length) (hk : 1 ≤ k) (hy : Blk w y 3 #[.int .i64 k]) (hx : Blk w x 75 #[.func (.func 41) #[] #[.pointer (some ⟨y, 0, none⟩)]]) (ho : (alignT k a != 0) = true) :
    Calls Try.prog 25 #[.pointer (some ⟨p, 0, none⟩), .int .i64 a, .int .i64 n, .slice (some ⟨x, 0, none⟩) 1 1] w fun e w' => e = .returned (.tuple #[.slice none 0 0, .int .i64 (alignT k a)]) ∧ w = w' := by
  have hl := h.len
  have hn0 : (n == 0) = false := by simp; omega
  have hc := hx.cell 0
  simp at hc
  go_enter Try.func25, Try.ntmps25
  go_wp2_with (go_at_call 36; refine (all_any _ h).mono ?_; rintro e w' ⟨rfl, rfl⟩)
  refine wp_loop_rounds 1 ?_
  rw [rounds_succ]
  go_wp2_with (go_at_call 41; refine (aligned1_any a n k y _ (by omega) hk hy).mono ?_; rintro e w' ⟨rfl, rfl⟩)
  go_ret2
  exact ⟨rfl, rfl⟩

set_option maxHeartbeats 1000000 in
theorem reach_in2 (a n : Int) (k : Int) (x y : Nat) (w : World) (h : Sp w p g bs dict here) (ha : 65536 ≤ a) (h1 : 1 ≤ n) (hi : a + n ≤ 65536 + bs.length) (hk : 1 ≤ k) (hy : Blk w y 3 #[.int .i64 k]) (hx : Blk w x 75 #[.func (.func 41) #[] #[.pointer (some ⟨y, 0, none⟩)], .func (.func 31) #[] #[]]) (ho : alignT k a = 0) (ho2 : openT a n = 0) :
    Calls Try.prog 25 #[.pointer (some ⟨p, 0, none⟩), .int .i64 a, .int .i64 n, .slice (some ⟨x, 0, none⟩) 2 2] w fun e w' => e = .returned (.tuple #[.slice (some ⟨g, (a - 65536).toNat, none⟩) n.toNat n.toNat, .int .i64 0]) ∧ w = w' := by
  have hl := h.len
  have hn0 : (n == 0) = false := by simp; omega
  have hc := hx.cell 0
  simp at hc
  have hc1 := hx.cell 1
  simp at hc1
  go_enter Try.func25, Try.ntmps25
  go_wp2_with (go_at_call 36; refine (all_any _ h).mono ?_; rintro e w' ⟨rfl, rfl⟩)
  refine wp_loop_rounds 3 ?_
  rw [rounds_succ]
  go_wp2_with (go_at_call 41; refine (aligned1_any a n k y _ (by omega) hk hy).mono ?_; rintro e w' ⟨rfl, rfl⟩)
  rw [rounds_succ]
  go_wp2_with (go_at_call 31; refine (open_any a n _ ha (by omega) (by omega) (by omega)).mono ?_; rintro e w' ⟨rfl, rfl⟩)
  rw [rounds_succ]
  go_wp2
  go_ret2
  exact ⟨rfl, rfl⟩

set_option maxHeartbeats 1000000 in
theorem reach_in2a (a n : Int) (k : Int) (x y : Nat) (w : World) (h : Sp w p g bs dict here) (ha : 65536 ≤ a) (h1 : 1 ≤ n) (hi : a + n ≤ 65536 + bs.length) (hk : 1 ≤ k) (hy : Blk w y 3 #[.int .i64 k]) (hx : Blk w x 75 #[.func (.func 41) #[] #[.pointer (some ⟨y, 0, none⟩)], .func (.func 31) #[] #[]]) (ho : (alignT k a != 0) = true) :
    Calls Try.prog 25 #[.pointer (some ⟨p, 0, none⟩), .int .i64 a, .int .i64 n, .slice (some ⟨x, 0, none⟩) 2 2] w fun e w' => e = .returned (.tuple #[.slice none 0 0, .int .i64 (alignT k a)]) ∧ w = w' := by
  have hl := h.len
  have hn0 : (n == 0) = false := by simp; omega
  have hc := hx.cell 0
  simp at hc
  go_enter Try.func25, Try.ntmps25
  go_wp2_with (go_at_call 36; refine (all_any _ h).mono ?_; rintro e w' ⟨rfl, rfl⟩)
  refine wp_loop_rounds 1 ?_
  rw [rounds_succ]
  go_wp2_with (go_at_call 41; refine (aligned1_any a n k y _ (by omega) hk hy).mono ?_; rintro e w' ⟨rfl, rfl⟩)
  go_ret2
  exact ⟨rfl, rfl⟩

set_option maxHeartbeats 1000000 in
theorem reach_in2b (a n : Int) (k : Int) (x y : Nat) (w : World) (h : Sp w p g bs dict here) (ha : 65536 ≤ a) (h1 : 1 ≤ n) (hi : a + n ≤ 65536 + bs.length) (hk : 1 ≤ k) (hy : Blk w y 3 #[.int .i64 k]) (hx : Blk w x 75 #[.func (.func 41) #[] #[.pointer (some ⟨y, 0, none⟩)], .func (.func 31) #[] #[]]) (ho : alignT k a = 0) (ho2 : (openT a n != 0) = true) :
    Calls Try.prog 25 #[.pointer (some ⟨p, 0, none⟩), .int .i64 a, .int .i64 n, .slice (some ⟨x, 0, none⟩) 2 2] w fun e w' => e = .returned (.tuple #[.slice none 0 0, .int .i64 (openT a n)]) ∧ w = w' := by
  have hl := h.len
  have hn0 : (n == 0) = false := by simp; omega
  have hc := hx.cell 0
  simp at hc
  have hc1 := hx.cell 1
  simp at hc1
  go_enter Try.func25, Try.ntmps25
  go_wp2_with (go_at_call 36; refine (all_any _ h).mono ?_; rintro e w' ⟨rfl, rfl⟩)
  refine wp_loop_rounds 2 ?_
  rw [rounds_succ]
  go_wp2_with (go_at_call 41; refine (aligned1_any a n k y _ (by omega) hk hy).mono ?_; rintro e w' ⟨rfl, rfl⟩)
  rw [rounds_succ]
  go_wp2_with (go_at_call 31; refine (open_any a n _ ha (by omega) (by omega) (by omega)).mono ?_; rintro e w' ⟨rfl, rfl⟩)
  go_ret2
  exact ⟨rfl, rfl⟩


/-- What the calls of 'reach' ask of an address and a number of bytes: they are of Go's int. -/
def i64 (a : Int) : Prop := -9223372036854775808 ≤ a ∧ a ≤ 9223372036854775807

theorem reach_out (a n r : Int) (rv : Value) (w : World) (h : Sp w p g bs dict here) (ha : i64 a) (hn : i64 n) (ho : ¬ (1 ≤ n ∧ 65536 ≤ a ∧ a + n ≤ 65536 + bs.length)) :
    Calls Try.prog 25 #[.pointer (some ⟨p, 0, none⟩), .int .i64 a, .int .i64 n, rv] w fun e w' => e = .returned (.tuple #[reachV g bs.length a n r, .int .i64 (reachT bs.length a n r)]) ∧ w = w' := by
  unfold reachV reachT
  by_cases k1 : n < 0
  · simp only [k1, if_true, show ¬ 0 < n by omega, false_and, if_false]
    exact reach_less a n rv w h k1
  · by_cases k2 : n = 0
    · subst k2
      simp only [Int.lt_irrefl, if_true, false_and, if_false]
      exact reach_zero a rv w h
    · have k3 : ¬ (65536 ≤ a ∧ a + n ≤ 65536 + bs.length) := fun x => ho ⟨by omega, x.1, x.2⟩
      have k4 : ¬ ((-9 : Int) = 0) := by decide
      simp only [k1, k2, k3, k4, if_false, and_false]
      rcases Int.lt_or_le a 0 with k5 | k5
      · exact reach_neg a n rv w h k5 ha.1 (by omega) hn.2
      · rcases Int.lt_or_le a 65536 with k6 | k6
        · exact reach_low a n rv w h k5 k6 (by omega) hn.2
        · exact reach_high a n rv w h k6 ha.2 (by omega) hn.2 (by omega)

theorem reachT_in {L : Nat} {a n r : Int} (h : 1 ≤ n ∧ 65536 ≤ a ∧ a + n ≤ 65536 + L) : reachT L a n r = r := by
  unfold reachT
  rw [if_neg (by omega), if_neg (by omega), if_pos h.2]
theorem reachV_in {g L : Nat} {a n r : Int} (h : 1 ≤ n ∧ 65536 ≤ a ∧ a + n ≤ 65536 + L) (hr : r = 0) : reachV g L a n r = .slice (some ⟨g, (a - 65536).toNat, none⟩) n.toNat n.toNat := by
  unfold reachV
  rw [reachT_in h, if_pos ⟨by omega, hr⟩]
theorem reachV_bad {g L : Nat} {a n r : Int} (hr : reachT L a n r ≠ 0) : reachV g L a n r = .slice none 0 0 := by
  unfold reachV
  rw [if_neg (fun x => hr x.2)]

theorem reach0 (a n : Int) (w : World) (h : Sp w p g bs dict here) (ha : i64 a) (hn : i64 n) :
    Calls Try.prog 25 #[.pointer (some ⟨p, 0, none⟩), .int .i64 a, .int .i64 n, .slice none 0 0] w fun e w' => e = .returned (.tuple #[reachV g bs.length a n 0, .int .i64 (reachT bs.length a n 0)]) ∧ w = w' := by
  by_cases hi : 1 ≤ n ∧ 65536 ≤ a ∧ a + n ≤ 65536 + bs.length
  · rw [reachV_in hi rfl, reachT_in hi]
    exact reach_in0 a n w h hi.2.1 hi.1 hi.2.2
  · exact reach_out a n 0 _ w h ha hn hi

theorem reach1 (a n : Int) (x : Nat) (w : World) (h : Sp w p g bs dict here) (ha : i64 a) (hn : i64 n) (hx : Blk w x 75 #[.func (.func 31) #[] #[]]) :
    Calls Try.prog 25 #[.pointer (some ⟨p, 0, none⟩), .int .i64 a, .int .i64 n, .slice (some ⟨x, 0, none⟩) 1 1] w fun e w' => e = .returned (.tuple #[reachV g bs.length a n (openT a n), .int .i64 (reachT bs.length a n (openT a n))]) ∧ w = w' := by
  by_cases hi : 1 ≤ n ∧ 65536 ≤ a ∧ a + n ≤ 65536 + bs.length
  · by_cases ho : openT a n = 0
    · rw [reachV_in hi ho, reachT_in hi, ho]
      exact reach_in1 a n x w h hi.2.1 hi.1 hi.2.2 hx ho
    · rw [reachV_bad (by rw [reachT_in hi]; exact ho), reachT_in hi]
      exact reach_in1b a n x w h hi.2.1 hi.1 hi.2.2 hx (by simpa using ho)
  · exact reach_out a n _ _ w h ha hn hi

theorem reachA (a n k : Int) (x y : Nat) (w : World) (h : Sp w p g bs dict here) (ha : i64 a) (hn : i64 n) (hk : 1 ≤ k) (hy : Blk w y 3 #[.int .i64 k]) (hx : Blk w x 75 #[.func (.func 41) #[] #[.pointer (some ⟨y, 0, none⟩)]]) :
    Calls Try.prog 25 #[.pointer (some ⟨p, 0, none⟩), .int .i64 a, .int .i64 n, .slice (some ⟨x, 0, none⟩) 1 1] w fun e w' => e = .returned (.tuple #[reachV g bs.length a n (alignT k a), .int .i64 (reachT bs.length a n (alignT k a))]) ∧ w = w' := by
  by_cases hi : 1 ≤ n ∧ 65536 ≤ a ∧ a + n ≤ 65536 + bs.length
  · by_cases ho : alignT k a = 0
    · rw [reachV_in hi ho, reachT_in hi, ho]
      exact reach_inA a n k x y w h hi.2.1 hi.1 hi.2.2 hk hy hx ho
    · rw [reachV_bad (by rw [reachT_in hi]; exact ho), reachT_in hi]
      exact reach_inAb a n k x y w h hi.2.1 hi.1 hi.2.2 hk hy hx (by simpa using ho)
  · exact reach_out a n _ _ w h ha hn hi

/-- The first throw of two rules. -/
def orT (r s : Int) : Int := if r = 0 then s else r
theorem reach2 (a n k : Int) (x y : Nat) (w : World) (h : Sp w p g bs dict here) (ha : i64 a) (hn : i64 n) (hk : 1 ≤ k) (hy : Blk w y 3 #[.int .i64 k]) (hx : Blk w x 75 #[.func (.func 41) #[] #[.pointer (some ⟨y, 0, none⟩)], .func (.func 31) #[] #[]]) :
    Calls Try.prog 25 #[.pointer (some ⟨p, 0, none⟩), .int .i64 a, .int .i64 n, .slice (some ⟨x, 0, none⟩) 2 2] w fun e w' => e = .returned (.tuple #[reachV g bs.length a n (orT (alignT k a) (openT a n)), .int .i64 (reachT bs.length a n (orT (alignT k a) (openT a n)))]) ∧ w = w' := by
  by_cases hi : 1 ≤ n ∧ 65536 ≤ a ∧ a + n ≤ 65536 + bs.length
  · by_cases ho : alignT k a = 0
    · have e1 : orT (alignT k a) (openT a n) = openT a n := by unfold orT; rw [if_pos ho]
      rw [e1]
      by_cases ho2 : openT a n = 0
      · rw [reachV_in hi ho2, reachT_in hi, ho2]
        exact reach_in2 a n k x y w h hi.2.1 hi.1 hi.2.2 hk hy hx ho ho2
      · rw [reachV_bad (by rw [reachT_in hi]; exact ho2), reachT_in hi]
        exact reach_in2b a n k x y w h hi.2.1 hi.1 hi.2.2 hk hy hx ho (by simpa using ho2)
    · have e1 : orT (alignT k a) (openT a n) = alignT k a := by unfold orT; rw [if_neg ho]
      rw [e1, reachV_bad (by rw [reachT_in hi]; exact ho), reachT_in hi]
      exact reach_in2a a n k x y w h hi.2.1 hi.1 hi.2.2 hk hy hx (by simpa using ho)
  · exact reach_out a n _ _ w h ha hn hi
end

end Go.Proofs.Ytmkpoemjikdoeaa
