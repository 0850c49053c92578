/- The document's data space: Fetch, Store and their like. -/
import Derived.Test.YtkgihajpobajaaaRget
namespace Go.Proofs.Ytkgihajpobajaaa
open Go Go.RowKit

section
variable {w w' : World} {p g : Nat} {bs : List Int} {here last : Int}
theorem rwT_read (L : Nat) (a n k : Int) : rwT L a n k false = reachT L a n (alignT k a) := by
  unfold rwT orT
  simp only [Bool.false_eq_true, if_false]
  split
  · rename_i h; rw [h]
  · rfl
theorem rwT_write (L : Nat) (a n k : Int) : rwT L a n k true = reachT L a n (orT (alignT k a) (openT a n)) := by
  unfold rwT
  simp only [if_true]

set_option maxHeartbeats 1000000 in
theorem FetchR (a : Int) (w : World) (h : RSp w p g bs here last) (ha : i64 a) :
    Calls Try.prog 45 #[.pointer (some ⟨p, 0, none⟩), .int .i64 a] w fun e w' => e = .returned (.tuple #[.int .i64 (getV bs a 8), .int .i64 (reachT bs.length a 8 (alignT 8 a))]) ∧ Fr0 w w' := by
  have hR := reachR a 8 8 false w h ha ⟨by omega, by omega⟩ (by decide)
  rw [rwT_read] at hR
  unfold getV
  by_cases h0 : reachT bs.length a 8 (alignT 8 a) = 0
  · obtain ⟨k1, k2, _⟩ := reachT_zero h0 (by omega)
    rw [if_pos h0, h0]
    rw [h0] at hR
    obtain ⟨off, rfl⟩ : ∃ off : Nat, a = 65536 + (off : Int) := ⟨(a - 65536).toNat, by omega⟩
    have hG := getR off 8 w h (by omega) (by omega)
    rw [show (65536 + (off : Int) - 65536).toNat = off by omega, show (8 : Int).toNat = 8 from rfl]
    have hb := leV_lt ((bs.drop off).take 8) ((h.byt.drop _).take _) (by simp; omega)
    have HR := Lib.hid hR
    have HG := Lib.hid hG
    clear hR hG h h0 k1 k2 ha
    generalize leV ((bs.drop off).take 8) = V at *
    go_enter Try.func45, Try.ntmps45
    go_wp2_with (first | (go_at_call 67; refine HR.out.mono ?_; rintro e w' ⟨rfl, rfl⟩) | (go_at_call 68; refine HG.out.mono ?_; rintro e w1 ⟨rfl, hf⟩))
    go_ret2
    exact ⟨rfl, hf⟩
  · rw [if_neg h0]
    have hb0 : (reachT bs.length a 8 (alignT 8 a) != 0) = true := by simpa using h0
    generalize reachT bs.length a 8 (alignT 8 a) = T at *
    have HR := Lib.hid hR
    clear hR h h0
    go_enter Try.func45, Try.ntmps45
    go_wp2_with (go_at_call 67; refine HR.out.mono ?_; rintro e w' ⟨rfl, rfl⟩)
    go_ret2
    exact ⟨rfl, Fr.refl _ _⟩

set_option maxHeartbeats 1000000 in
theorem ByteR (a : Int) (w : World) (h : RSp w p g bs here last) (ha : i64 a) :
    Calls Try.prog 47 #[.pointer (some ⟨p, 0, none⟩), .int .i64 a] w fun e w' => e = .returned (.tuple #[.int .i64 (getV bs a 1), .int .i64 (reachT bs.length a 1 (alignT 1 a))]) ∧ Fr0 w w' := by
  have hR := reachR a 1 1 false w h ha ⟨by omega, by omega⟩ (by decide)
  rw [rwT_read] at hR
  unfold getV
  by_cases h0 : reachT bs.length a 1 (alignT 1 a) = 0
  · obtain ⟨k1, k2, _⟩ := reachT_zero h0 (by omega)
    rw [if_pos h0, h0]
    rw [h0] at hR
    obtain ⟨off, rfl⟩ : ∃ off : Nat, a = 65536 + (off : Int) := ⟨(a - 65536).toNat, by omega⟩
    have hG := getR off 1 w h (by omega) (by omega)
    rw [show (65536 + (off : Int) - 65536).toNat = off by omega, show (1 : Int).toNat = 1 from rfl]
    have hb := leV_lt ((bs.drop off).take 1) ((h.byt.drop _).take _) (by simp; omega)
    have HR := Lib.hid hR
    have HG := Lib.hid hG
    clear hR hG h h0 k1 k2 ha
    generalize leV ((bs.drop off).take 1) = V at *
    go_enter Try.func47, Try.ntmps47
    go_wp2_with (first | (go_at_call 67; refine HR.out.mono ?_; rintro e w' ⟨rfl, rfl⟩) | (go_at_call 68; refine HG.out.mono ?_; rintro e w1 ⟨rfl, hf⟩))
    go_ret2
    exact ⟨rfl, hf⟩
  · rw [if_neg h0]
    have hb0 : (reachT bs.length a 1 (alignT 1 a) != 0) = true := by simpa using h0
    generalize reachT bs.length a 1 (alignT 1 a) = T at *
    have HR := Lib.hid hR
    clear hR h h0
    go_enter Try.func47, Try.ntmps47
    go_wp2_with (go_at_call 67; refine HR.out.mono ?_; rintro e w' ⟨rfl, rfl⟩)
    go_ret2
    exact ⟨rfl, Fr.refl _ _⟩

set_option maxHeartbeats 1000000 in
theorem HalfR (a : Int) (w : World) (h : RSp w p g bs here last) (ha : i64 a) :
    Calls Try.prog 51 #[.pointer (some ⟨p, 0, none⟩), .int .i64 a] w fun e w' => e = .returned (.tuple #[.int .i64 (getV bs a 4), .int .i64 (reachT bs.length a 4 (alignT 4 a))]) ∧ Fr0 w w' := by
  have hR := reachR a 4 4 false w h ha ⟨by omega, by omega⟩ (by decide)
  rw [rwT_read] at hR
  unfold getV
  by_cases h0 : reachT bs.length a 4 (alignT 4 a) = 0
  · obtain ⟨k1, k2, _⟩ := reachT_zero h0 (by omega)
    rw [if_pos h0, h0]
    rw [h0] at hR
    obtain ⟨off, rfl⟩ : ∃ off : Nat, a = 65536 + (off : Int) := ⟨(a - 65536).toNat, by omega⟩
    have hG := getR off 4 w h (by omega) (by omega)
    rw [show (65536 + (off : Int) - 65536).toNat = off by omega, show (4 : Int).toNat = 4 from rfl]
    have hb := leV_lt ((bs.drop off).take 4) ((h.byt.drop _).take _) (by simp; omega)
    have HR := Lib.hid hR
    have HG := Lib.hid hG
    clear hR hG h h0 k1 k2 ha
    generalize leV ((bs.drop off).take 4) = V at *
    go_enter Try.func51, Try.ntmps51
    go_wp2_with (first | (go_at_call 67; refine HR.out.mono ?_; rintro e w' ⟨rfl, rfl⟩) | (go_at_call 68; refine HG.out.mono ?_; rintro e w1 ⟨rfl, hf⟩))
    go_ret2
    exact ⟨rfl, hf⟩
  · rw [if_neg h0]
    have hb0 : (reachT bs.length a 4 (alignT 4 a) != 0) = true := by simpa using h0
    generalize reachT bs.length a 4 (alignT 4 a) = T at *
    have HR := Lib.hid hR
    clear hR h h0
    go_enter Try.func51, Try.ntmps51
    go_wp2_with (go_at_call 67; refine HR.out.mono ?_; rintro e w' ⟨rfl, rfl⟩)
    go_ret2
    exact ⟨rfl, Fr.refl _ _⟩


set_option maxHeartbeats 1000000 in
theorem StoreR (a v : Int) (w : World) (h : RSp w p g bs here last) (ha : i64 a) (hv : i64 v) :
    Calls Try.prog 46 #[.pointer (some ⟨p, 0, none⟩), .int .i64 a, .int .i64 v] w fun e w' => e = .returned (.int .i64 (reachT bs.length a 8 (orT (alignT 8 a) (openT a 8)))) ∧ Fr1 g w w' ∧ RSp w' p g (putB bs a v 8) here last := by
  have hR := reachR a 8 8 true w h ha ⟨by omega, by omega⟩ (by decide)
  rw [rwT_write] at hR
  obtain ⟨hv1, hv2⟩ := hv
  unfold putB
  by_cases h0 : reachT bs.length a 8 (orT (alignT 8 a) (openT a 8)) = 0
  · obtain ⟨k1, k2, _⟩ := reachT_zero h0 (by omega)
    rw [if_pos h0, h0]
    rw [h0] at hR
    obtain ⟨off, rfl⟩ : ∃ off : Nat, a = 65536 + (off : Int) := ⟨(a - 65536).toNat, by omega⟩
    have hG := setR off 8 v w h (by omega) (by omega)
    rw [show (65536 + (off : Int) - 65536).toNat = off by omega, show (8 : Int).toNat = 8 from rfl]
    have HR := Lib.hid hR
    have HG := Lib.hid hG
    clear hR hG h h0 k1 k2 ha
    go_enter Try.func46, Try.ntmps46
    go_wp2_with (go_at_call 67; refine HR.out.mono ?_; rintro e w' ⟨rfl, rfl⟩)
    refine HG.out.mono ?_
    rintro e w1 ⟨rfl, hf, hr⟩
    go_wp2
    go_ret
    exact ⟨rfl, hf, hr⟩
  · rw [if_neg h0]
    have hb0 : (reachT bs.length a 8 (orT (alignT 8 a) (openT a 8)) == 0) = false := by simpa using h0
    generalize reachT bs.length a 8 (orT (alignT 8 a) (openT a 8)) = T at *
    have HR := Lib.hid hR
    clear hR h0
    go_enter Try.func46, Try.ntmps46
    go_wp2_with (go_at_call 67; refine HR.out.mono ?_; rintro e w' ⟨rfl, rfl⟩)
    go_ret
    exact ⟨rfl, Fr.refl _ _, h⟩

set_option maxHeartbeats 1000000 in
theorem PutByteR (a v : Int) (w : World) (h : RSp w p g bs here last) (ha : i64 a) (hv : i64 v) :
    Calls Try.prog 49 #[.pointer (some ⟨p, 0, none⟩), .int .i64 a, .int .i64 v] w fun e w' => e = .returned (.int .i64 (reachT bs.length a 1 (orT (alignT 1 a) (openT a 1)))) ∧ Fr1 g w w' ∧ RSp w' p g (putB bs a v 1) here last := by
  have hR := reachR a 1 1 true w h ha ⟨by omega, by omega⟩ (by decide)
  rw [rwT_write] at hR
  obtain ⟨hv1, hv2⟩ := hv
  unfold putB
  by_cases h0 : reachT bs.length a 1 (orT (alignT 1 a) (openT a 1)) = 0
  · obtain ⟨k1, k2, _⟩ := reachT_zero h0 (by omega)
    rw [if_pos h0, h0]
    rw [h0] at hR
    obtain ⟨off, rfl⟩ : ∃ off : Nat, a = 65536 + (off : Int) := ⟨(a - 65536).toNat, by omega⟩
    have hG := setR off 1 v w h (by omega) (by omega)
    rw [show (65536 + (off : Int) - 65536).toNat = off by omega, show (1 : Int).toNat = 1 from rfl]
    have HR := Lib.hid hR
    have HG := Lib.hid hG
    clear hR hG h h0 k1 k2 ha
    go_enter Try.func49, Try.ntmps49
    go_wp2_with (go_at_call 67; refine HR.out.mono ?_; rintro e w' ⟨rfl, rfl⟩)
    refine HG.out.mono ?_
    rintro e w1 ⟨rfl, hf, hr⟩
    go_wp2
    go_ret
    exact ⟨rfl, hf, hr⟩
  · rw [if_neg h0]
    have hb0 : (reachT bs.length a 1 (orT (alignT 1 a) (openT a 1)) == 0) = false := by simpa using h0
    generalize reachT bs.length a 1 (orT (alignT 1 a) (openT a 1)) = T at *
    have HR := Lib.hid hR
    clear hR h0
    go_enter Try.func49, Try.ntmps49
    go_wp2_with (go_at_call 67; refine HR.out.mono ?_; rintro e w' ⟨rfl, rfl⟩)
    go_ret
    exact ⟨rfl, Fr.refl _ _, h⟩

set_option maxHeartbeats 1000000 in
theorem PutHalfR (a v : Int) (w : World) (h : RSp w p g bs here last) (ha : i64 a) (hv : i64 v) :
    Calls Try.prog 53 #[.pointer (some ⟨p, 0, none⟩), .int .i64 a, .int .i64 v] w fun e w' => e = .returned (.int .i64 (reachT bs.length a 4 (orT (alignT 4 a) (openT a 4)))) ∧ Fr1 g w w' ∧ RSp w' p g (putB bs a v 4) here last := by
  have hR := reachR a 4 4 true w h ha ⟨by omega, by omega⟩ (by decide)
  rw [rwT_write] at hR
  obtain ⟨hv1, hv2⟩ := hv
  unfold putB
  by_cases h0 : reachT bs.length a 4 (orT (alignT 4 a) (openT a 4)) = 0
  · obtain ⟨k1, k2, _⟩ := reachT_zero h0 (by omega)
    rw [if_pos h0, h0]
    rw [h0] at hR
    obtain ⟨off, rfl⟩ : ∃ off : Nat, a = 65536 + (off : Int) := ⟨(a - 65536).toNat, by omega⟩
    have hG := setR off 4 v w h (by omega) (by omega)
    rw [show (65536 + (off : Int) - 65536).toNat = off by omega, show (4 : Int).toNat = 4 from rfl]
    have HR := Lib.hid hR
    have HG := Lib.hid hG
    clear hR hG h h0 k1 k2 ha
    go_enter Try.func53, Try.ntmps53
    go_wp2_with (go_at_call 67; refine HR.out.mono ?_; rintro e w' ⟨rfl, rfl⟩)
    refine HG.out.mono ?_
    rintro e w1 ⟨rfl, hf, hr⟩
    go_wp2
    go_ret
    exact ⟨rfl, hf, hr⟩
  · rw [if_neg h0]
    have hb0 : (reachT bs.length a 4 (orT (alignT 4 a) (openT a 4)) == 0) = false := by simpa using h0
    generalize reachT bs.length a 4 (orT (alignT 4 a) (openT a 4)) = T at *
    have HR := Lib.hid hR
    clear hR h0
    go_enter Try.func53, Try.ntmps53
    go_wp2_with (go_at_call 67; refine HR.out.mono ?_; rintro e w' ⟨rfl, rfl⟩)
    go_ret
    exact ⟨rfl, Fr.refl _ _, h⟩

end
end Go.Proofs.Ytkgihajpobajaaa
