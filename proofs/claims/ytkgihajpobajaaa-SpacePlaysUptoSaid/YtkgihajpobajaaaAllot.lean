/- The program's data space: Allot. -/
import Derived.Test.YtkgihajpobajaaaAwake9
namespace Go.Proofs.Ytkgihajpobajaaa
open Go Go.RowKit

/-- What Allot throws. -/
def alT (dict here n : Int) : Int := if 77824 + dict - here < n ∨ n < 77824 - here then -8 else 0
/-- HERE behind it. -/
def alH (dict here n : Int) : Int := if 77824 + dict - here < n ∨ n < 77824 - here then here else here + n

theorem Sp.here {w : World} {p g : Nat} {bs : List Int} {dict here : Int} (h : Sp w p g bs dict here) (x : Int) : Sp (w.setCell ⟨p, 2, none⟩ (.int .i64 x)) p g bs dict x :=
  ⟨by have := h.obj.set_ 2 (.int .i64 x); simpa using this, h.row.far (p := ⟨p, 2, none⟩) (Ne.symm h.ne) _, h.byt, h.len⟩
theorem Sp.drewN {w : World} {p g : Nat} {bs : List Int} {dict here : Int} (h : Sp w p g bs dict here) (n : Nat) : Sp (w.drewN n) p g bs dict here := ⟨h.obj.drewN n, h.row.drewN n, h.byt, h.len⟩

section
variable {p g : Nat} {bs : List Int} {dict here : Int}
set_option maxHeartbeats 1000000 in
theorem Allot_any (n : Int) (w : World) (h : Sp w p g bs dict here) (hd : 0 ≤ dict) (hd' : dict ≤ 524288) (hh : 77824 ≤ here) (hh' : here ≤ 77824 + dict) :
    Calls Try.prog 18 #[.pointer (some ⟨p, 0, none⟩), .int .i64 n] w fun e w' => e = .returned (.int .i64 (alT dict here n)) ∧ Fr1 p w w' ∧ Sp w' p g bs dict (alH dict here n) := by
  have h2 := h.obj.cell 2
  have f2 := h.obj.frozen 2
  simp at h2
  unfold alT alH
  by_cases k1 : 77824 + dict - here < n
  · rw [if_pos (.inl k1), if_pos (.inl k1)]
    go_enter Try.func18, Try.ntmps18
    go_wp2_with (first | (go_at_call 36; refine (none_any _ h (by omega)).mono ?_; rintro e w' ⟨rfl, rfl⟩) | (go_at_call 20; refine (Unused_any _ h (by omega) (by omega) hd (by omega)).mono ?_; rintro e w' ⟨rfl, q, rfl⟩))
    go_ret
    exact ⟨rfl, (Fr.refl _ _).drewN _, h.drewN _⟩
  · have k1' : n ≤ 77824 + dict - here := by omega
    by_cases k2 : n < 77824 - here
    · rw [if_pos (.inr k2), if_pos (.inr k2)]
      clear k1
      go_enter Try.func18, Try.ntmps18
      go_wp2_with (first | (go_at_call 36; refine (none_any _ h (by omega)).mono ?_; rintro e w' ⟨rfl, rfl⟩) | (go_at_call 20; refine (Unused_any _ h (by omega) (by omega) hd (by omega)).mono ?_; rintro e w' ⟨rfl, q, rfl⟩))
      go_ret
      exact ⟨rfl, (Fr.refl _ _).drewN _, h.drewN _⟩
    · have k2' : 77824 - here ≤ n := by omega
      rw [if_neg (by omega), if_neg (by omega)]
      clear k1 k2
      go_enter Try.func18, Try.ntmps18
      go_wp2_with (first | (go_at_call 36; refine (none_any _ h (by omega)).mono ?_; rintro e w' ⟨rfl, rfl⟩) | (go_at_call 20; refine (Unused_any _ h (by omega) (by omega) hd (by omega)).mono ?_; rintro e w' ⟨rfl, q, rfl⟩))
      go_ret
      exact ⟨rfl, Fr.setCell (S := fun k => k = p) (p := ⟨p, 2, none⟩) ((Fr.refl _ _).drewN _) (.inl rfl) _, (h.drewN _).here _⟩
end

end Go.Proofs.Ytkgihajpobajaaa
