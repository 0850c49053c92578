/- The walk of SourceNothing. -/
import Derived.Test.YtmkpoemjikdoeaaSrcNone
namespace Go.Proofs.Ytmkpoemjikdoeaa
open Go Go.RowKit
set_option linter.unusedVariables false

set_option maxRecDepth 100000 in
set_option maxHeartbeats 4000000 in
theorem nothing_walk (n : Int) (sv : Value) (zs : List Int) (w : World) (hn : -9223372036854775808 ≤ n ∧ n ≤ 9223372036854775807) (hs : Row8 w w.heap.size sv zs) :
    Calls Try.prog 4 #[.int .i64 n, sv] w fun e w' => e = .returned (.bool true) ∧ Fr0 w w' := by
  obtain ⟨A, cap, rfl, _⟩ := hs
  generalize zs.length = len at *
  have HAW := Lib.hid (fun W => awake17 W)
  have HNW := Lib.hid (New_no w)
  go_enter Try.func4, Try.ntmps4
  go_wp2_with (go_at_call 12; refine HNW.out.mono ?_; rintro e w1 ⟨c, rfl, hf1, hno⟩; have HF1 := Lib.hid hf1; have HNO := Lib.hid hno; clear hf1 hno)
  have hb1 : Blk (w1.alloc (.cells #[.pointer none, .pointer (some ⟨c, 0, none⟩)] 29)) w1.heap.size 29 #[.pointer none, .pointer (some ⟨c, 0, none⟩)] := Blk.new _ _ _
  obtain ⟨w2, hw2⟩ : ∃ w2, w1.alloc (.cells #[.pointer none, .pointer (some ⟨c, 0, none⟩)] 29) = w2 := ⟨_, rfl⟩
  have hF2 : Fr0 w w2 := by rw [← hw2]; exact HF1.out.alloc _
  have hno2 : NoSrc w2 (.pointer (some ⟨c, 0, none⟩)) := by rw [← hw2]; exact HNO.out.fr0 ((Fr.refl _ w1).alloc _)
  rw [hw2] at hb1 ⊢
  have hall : ∀ κ : Nat, κ < 2 → ∃ sv, ∀ W, Fr0 w2 W → W.cell? ⟨w1.heap.size, κ, none⟩ = some sv ∧ NoSrc W sv := fun κ hκ => by
    rcases (show κ = 0 ∨ κ = 1 by omega) with rfl | rfl
    · exact ⟨_, fun W hW => ⟨(hb1.fr0 hW).cell 0, .inl rfl⟩⟩
    · exact ⟨_, fun W hW => ⟨(hb1.fr0 hW).cell 1, hno2.fr0 hW⟩⟩
  have H3 := Lib.hid hF2
  have HALL := Lib.hid hall
  clear hb1 hF2 hw2 hno2 hall
  go_loopw [7] (fun k wr => ∃ κ : Nat, κ ≤ 2 ∧ k = .int .i64 κ ∧ Fr0 w2 wr) (fun k _ => 2 - (intOf k).toNat)
  case atStart => exact ⟨0, by omega, rfl, Fr.refl _ _⟩
  case round =>
    obtain ⟨κ, hκ, rfl, hfr⟩ := hrel
    by_cases hκ2 : κ < 2
    · obtain ⟨s, hsv⟩ := HALL.out κ hκ2
      have c0 := (hsv wr hfr).1
      have HNS := Lib.hid (fun W hW => (hsv W hW).2)
      have HC := Lib.hid (fun W hW => (hsv W hW).1)
      have HFR := Lib.hid hfr
      have hκI : (κ : Int) < 2 := by omega
      clear hsv hfr
      go_wp2_with (first | (go_at_call 13; refine (Parse_no _ _ _ (HNS.out _ HFR.out)).mono ?_; rintro e wn ⟨rfl, rfl⟩) | (go_at_call 10; refine (Name_no _ _ (HNS.out _ HFR.out)).mono ?_; rintro e wn ⟨rfl, rfl⟩) | (go_at_call 14; refine (Left_no _ _ (HNS.out _ HFR.out)).mono ?_; rintro e wn ⟨rfl, rfl⟩) | (go_at_call 15; refine (Now_no _ _ (HNS.out _ HFR.out)).mono ?_; rintro e wn ⟨rfl, hfn⟩))
      exact ⟨⟨κ + 1, by omega, by push_cast; rfl, HFR.out.trans hfn⟩, by simp [intOf]; omega⟩
    · obtain rfl : κ = 2 := by omega
      have HFR := Lib.hid (H3.out.trans hfr)
      clear hfr
      go_wp2_with (first | (go_at_call 9; refine (Lay_no _ _ _ (.inl rfl)).mono ?_; rintro e wn ⟨rfl, rfl⟩) | (go_at_call 7; refine (HAW.out _).mono ?_; rintro e w3 ⟨rfl, hf3⟩))
      go_ret
      exact ⟨rfl, HFR.out.trans hf3⟩
end Go.Proofs.Ytmkpoemjikdoeaa
