/- Chapter 9's own: is a script more than is looked at? -/
import Derived.Test.YtkgihajpobajaaaArgs9
namespace Go.Proofs.Ytkgihajpobajaaa
open Go Go.RowKit

def sumD (f : Nat → Stp9) : Nat → Nat
  | 0 => 0
  | n + 1 => sumD f n + (f n).bs.length / 16
theorem sumD_le (f : Nat → Stp9) (n : Nat) : sumD f n ≤ sumB f n := by
  induction n with
  | zero => exact Nat.le_refl _
  | succ n ih => simp only [sumD, sumB]; omega
theorem sumD_mono (f : Nat → Stp9) {k n : Nat} (h : k ≤ n) : sumD f k ≤ sumD f n := by
  induction n with
  | zero => obtain rfl : k = 0 := by omega
            exact Nat.le_refl _
  | succ n ih =>
    by_cases hk : k = n + 1
    · subst hk; exact Nat.le_refl _
    · have := ih (by omega); simp only [sumD]; omega
theorem sumD_at (f : Nat → Stp9) {k n : Nat} (h : k < n) : (f k).bs.length / 16 ≤ sumD f n := by
  have := sumD_mono f (show k + 1 ≤ n by omega)
  simp only [sumD] at this
  omega
def muchB (f : Nat → Stp9) (n : Nat) : Bool := decide (200 < n + sumD f n)

theorem Row8.len_ {w : World} {B : Nat} {v : Value} {zs : List Int} (h : Row8 w B v zs) : ∃ A cap, v = .slice A zs.length cap := by
  obtain ⟨A, cap, e, _⟩ := h
  exact ⟨A, cap, e⟩

set_option maxHeartbeats 2000000 in
theorem much_any (w : World) {B : Nat} {a : Option Addr} {len cap : Nat} {f : Nat → Stp9} (h : RowP w B a len cap f) (hB : B ≤ w.heap.size) (hs : len + sumB f len ≤ 2000000) :
    Calls Try.prog 24 #[.slice a len cap] w fun e w' => e = .returned (.bool (muchB f len)) ∧ Fr0 w w' := by
  have hsd := sumD_le f len
  have hs2 : len + sumD f len ≤ 2000000 := by omega
  have HM := Lib.hid (show muchB f len = decide (200 < len + sumD f len) from rfl)
  have HR := Lib.hid h
  clear h hsd hs
  go_enter Try.func24, Try.ntmps24
  go_wp2
  go_loopw [3, 4] (fun n i wr => ∃ k : Nat, k ≤ len ∧ i = .int .i64 k ∧ n = .int .i64 ((len : Int) + sumD f k) ∧ Fr0 w wr) (fun _ i _ => len - (intOf i).toNat)
  case atStart => exact ⟨0, by omega, rfl, by simp [sumD], Fr.refl _ _⟩
  case round =>
    obtain ⟨k, hk, rfl, rfl, hfr⟩ := hrel
    by_cases hlt : k < len
    · obtain ⟨b, off, rfl, hb, _, _, _, _, c4⟩ := (HR.out.fr hfr hB (fun _ _ x => x)).at_ hlt
      obtain ⟨A4, cap4, e4⟩ := (HR.out.ok k hlt).b.len_
      rw [e4] at c4
      have hsm := sumD_mono f (show k + 1 ≤ len by omega)
      have hse := Lib.hid (show sumD f (k + 1) = sumD f k + (f k).bs.length / 16 from rfl)
      have hsm2 : sumD f k + (f k).bs.length / 16 ≤ sumD f len := by rw [← hse.out]; exact hsm
      have HF := Lib.hid hfr
      clear hfr e4 hsm
      obtain ⟨m, hm⟩ : ∃ m, (f k).bs.length = m := ⟨_, rfl⟩
      rw [hm] at c4 hse hsm2
      clear hm
      have hltI : (k : Int) < (len : Int) := by omega
      go_wp2
      exact ⟨⟨k + 1, by omega, by push_cast; rfl, by rw [hse.out]; push_cast; simp; omega, HF.out⟩, by simp [intOf]; omega⟩
    · obtain rfl : k = len := by omega
      go_wp2
      go_ret
      exact ⟨by rw [HM.out]; simp; omega, hfr⟩
end Go.Proofs.Ytkgihajpobajaaa
