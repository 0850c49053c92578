/- The program's data space: Half, PutHalf, PutByte, Fill, SetHere, System, Heap. -/
import Derived.Test.YtkgihajpobajaaaClear
import Derived.Test.YtkgihajpobajaaaUp
import Derived.Test.YtkgihajpobajaaaAllot
namespace Go.Proofs.Ytkgihajpobajaaa
open Go Go.RowKit

section
variable {p g : Nat} {bs : List Int} {dict here : Int}
set_option maxHeartbeats 400000 in
theorem Half_any (a : Int) (w : World) (h : Sp w p g bs dict here) (ha : i64 a) :
    Calls Try.prog 50 #[.pointer (some ⟨p, 0, none⟩), .int .i64 a] w fun e w' => e = .returned (.tuple #[.int .i64 (getV bs a 4), .int .i64 (reachT bs.length a 4 (alignT 4 a))]) ∧ Fr0 w w' := by
  go_enter Try.func50, Try.ntmps50
  go_wp2_with (go_at_call 31; refine (get_spec a 4 _ h ha (by omega) (by omega)).mono ?_; rintro e w1 ⟨rfl, hf⟩)
  go_ret2
  exact ⟨rfl, hf⟩
set_option maxHeartbeats 400000 in
theorem PutHalf_any (a v : Int) (w : World) (h : Sp w p g bs dict here) (ha : i64 a) :
    Calls Try.prog 52 #[.pointer (some ⟨p, 0, none⟩), .int .i64 a, .int .i64 v] w fun e w' => e = .returned (.int .i64 (reachT bs.length a 4 (orT (alignT 4 a) (openT a 4)))) ∧ Fr1 g w w' ∧ Sp w' p g (putB bs a v 4) dict here := by
  go_enter Try.func52, Try.ntmps52
  go_wp2_with (go_at_call 32; refine (put_spec a v 4 _ h ha (by omega) (by omega)).mono ?_; rintro e w1 ⟨rfl, hf⟩)
  go_ret
  exact ⟨rfl, hf⟩
set_option maxHeartbeats 400000 in
theorem PutByte_any (a v : Int) (w : World) (h : Sp w p g bs dict here) (ha : i64 a) :
    Calls Try.prog 48 #[.pointer (some ⟨p, 0, none⟩), .int .i64 a, .int .i64 v] w fun e w' => e = .returned (.int .i64 (reachT bs.length a 1 (orT (alignT 1 a) (openT a 1)))) ∧ Fr1 g w w' ∧ Sp w' p g (putB bs a v 1) dict here := by
  go_enter Try.func48, Try.ntmps48
  go_wp2_with (go_at_call 32; refine (put_spec a v 1 _ h ha (by omega) (by omega)).mono ?_; rintro e w1 ⟨rfl, hf⟩)
  go_ret
  exact ⟨rfl, hf⟩
set_option maxHeartbeats 400000 in
theorem Heap_any (w : World) (h : Sp w p g bs dict here) (hh : 1 ≤ here) (hd : 0 ≤ dict) (hd' : dict ≤ 10000000) :
    Calls Try.prog 64 #[.pointer (some ⟨p, 0, none⟩)] w fun e w' => e = .returned (.tuple #[.int .i64 (77824 + dict), .int .i64 (65536 + bs.length)]) ∧ Fr0 w w' := by
  have h1 := h.obj.cell 1
  simp at h1
  have hN := none_any w h hh
  have hE := fun W (hW : Fr0 w W) => End_any W (h.fr0 hW) hh
  have HN := Lib.hid hN
  have HE := Lib.hid hE
  clear hN hE
  go_enter Try.func64, Try.ntmps64
  go_wp2_with (go_at_call 36; refine HN.out.mono ?_; rintro e w' ⟨rfl, rfl⟩)
  go_quiet ((go_at_call 29; exact Calls.quiet_of_same ((HE.out _ ((Fr.refl _ _).drewN _)).mono fun e w' h => ⟨h.1, h.2.symm⟩)))
  go_wp2
  go_ret2
  exact ⟨rfl, (Fr.refl _ _).drewN _⟩
/-- What SetHere answers; HERE behind it. -/
def shT (dict a : Int) : Int := if a < 77824 ∨ 77824 + dict < a then -9 else 0
def shH (dict here a : Int) : Int := if a < 77824 ∨ 77824 + dict < a then here else a
set_option maxHeartbeats 1000000 in
theorem SetHere_any (a : Int) (w : World) (h : Sp w p g bs dict here) (hh : 1 ≤ here) (hd : 0 ≤ dict) (hd' : dict ≤ 10000000) (ha : i64 a) :
    Calls Try.prog 28 #[.pointer (some ⟨p, 0, none⟩), .int .i64 a] w fun e w' => e = .returned (.int .i64 (shT dict a)) ∧ Fr1 p w w' ∧ Sp w' p g bs dict (shH dict here a) := by
  have h1 := h.obj.cell 1
  have h2 := h.obj.cell 2
  have z2 := h.obj.frozen 2
  simp at h1 h2
  have HN := Lib.hid (none_any w h hh)
  have HH := Lib.hid h
  unfold shT shH
  obtain ⟨ha1, ha2⟩ := ha
  clear h
  by_cases k1 : a < 77824
  · rw [if_pos (.inl k1), if_pos (.inl k1)]
    go_enter Try.func28, Try.ntmps28
    go_wp2_with (go_at_call 36; refine HN.out.mono ?_; rintro e w' ⟨rfl, rfl⟩)
    go_ret
    exact ⟨rfl, Fr.refl _ _, HH.out⟩
  · by_cases k2 : 77824 + dict < a
    · rw [if_pos (.inr k2), if_pos (.inr k2)]
      go_enter Try.func28, Try.ntmps28
      go_wp2_with (go_at_call 36; refine HN.out.mono ?_; rintro e w' ⟨rfl, rfl⟩)
      go_ret
      exact ⟨rfl, Fr.refl _ _, HH.out⟩
    · rw [if_neg (by omega), if_neg (by omega)]
      go_enter Try.func28, Try.ntmps28
      go_wp2_with (go_at_call 36; refine HN.out.mono ?_; rintro e w' ⟨rfl, rfl⟩)
      go_ret
      exact ⟨rfl, (Fr.refl (fun k => k = p) w).setCell (p := ⟨p, 2, none⟩) (.inl rfl) _, HH.out.here _⟩
end
end Go.Proofs.Ytkgihajpobajaaa
