/- SpaceAllots: the walk. -/
import Derived.Test.YtkgihajpobajaaaAllot
import Derived.Test.YtkgihajpobajaaaArgs
namespace Go.Proofs.Ytkgihajpobajaaa
open Go Go.RowKit

set_option maxRecDepth 100000 in
set_option maxHeartbeats 4000000 in
theorem allots_walk (dict : Int) (sv : Value) (zs : List Int) (w : World) (_hd : i64 dict) (hs : RowI w w.heap.size sv zs) :
    Calls Try.prog 5 #[.int .i64 dict, sv] w fun e w' => e = .returned (.bool true) ∧ Fr0 w w' := by
  have hs0 := hs
  obtain ⟨A, cap, rfl, hcap, hcap2, _⟩ := hs
  by_cases hlt : 200 < zs.length
  · go_enter Try.func5, Try.ntmps5
    go_wp2_with (go_at_call 13; refine (awake9 _).mono ?_; rintro e w1 ⟨rfl, hf⟩)
    go_ret
    exact ⟨rfl, hf⟩
  have hz3 : zs.length ≤ 200 := by omega
  clear hlt
  by_cases hn : newOk dict 0
  · obtain ⟨n1, n2, n3, n4, n5, n6⟩ := hn
    have HN := Lib.hid (New_ok dict 0 w ⟨n1, n2, n3, n4, n5, n6⟩)
    clear n5 n6 n3 n4
    go_enter Try.func5, Try.ntmps5
    go_wp2_with (go_at_call 10; refine HN.out.mono ?_; rintro e w1 ⟨rfl, hf1, hs1, h1⟩)
    generalize noughts (12288 + dict + 0).toNat = bs at *
    have Hs1 := Lib.hid hs1
    clear hs1
    go_loopw [7, 8] (fun u i wr => ∃ (k : Nat) (here : Int), k ≤ zs.length ∧ i = .int .i64 k ∧ u = .int .i64 here ∧ 77824 ≤ here ∧ here ≤ 77824 + dict ∧ Fr0 w wr ∧ Sp wr (w.heap.size + 1) w.heap.size bs dict here) (fun _ i _ => zs.length - (intOf i).toNat)
    case atStart => exact ⟨0, 77824, by omega, rfl, rfl, by omega, by omega, hf1, h1⟩
    case round =>
      obtain ⟨k, here, hk, rfl, rfl, hh1, hh2, hfr, hsp⟩ := hrel
      by_cases hlt : k < zs.length
      · obtain ⟨b, off, x, rfl, hbl, hx, hx64, hcx⟩ := (hs0.below hfr.below0).at_ hlt
        obtain ⟨x1, x2⟩ := hx64
        have hwr := hfr.size
        have Hx := Lib.hid hx
        clear hx
        have hA := Allot_any x wr hsp (by omega) n2 hh1 hh2
        by_cases c1 : 77824 + dict - here < x
        · rw [show alT dict here x = -8 by unfold alT; rw [if_pos (.inl c1)], show alH dict here x = here by unfold alH; rw [if_pos (.inl c1)]] at hA
          have HA := Lib.hid hA
          clear hA
          go_wp2_with (first | (go_at_call 18; refine HA.out.mono ?_; rintro e w2 ⟨rfl, hf2, h2⟩; have hcx2 := (hf2.cell (p := ⟨b, off + k, none⟩) (by simp; omega) (by simp; omega)).trans hcx) | (go_at_call 19; refine (Here_any _ h2).mono ?_; rintro e w' ⟨rfl, rfl⟩) | (go_at_call 20; refine (Unused_any _ h2 (by omega) (by omega) (by omega) (by omega)).mono ?_; rintro e w' ⟨rfl, q, rfl⟩))
          go_roundw
          case rel => exact ⟨k + 1, here, by omega, by go_num, rfl, by omega, by omega, (hfr.then hf2 (fun j hj e => by omega)).drewN q, h2.drewN q⟩
          case measure => simp [intOf]; omega
        · have c1' : x ≤ 77824 + dict - here := by omega
          clear c1
          by_cases c2 : x < 77824 - here
          · rw [show alT dict here x = -8 by unfold alT; rw [if_pos (.inr c2)], show alH dict here x = here by unfold alH; rw [if_pos (.inr c2)]] at hA
            have HA := Lib.hid hA
            clear hA
            go_wp2_with (first | (go_at_call 18; refine HA.out.mono ?_; rintro e w2 ⟨rfl, hf2, h2⟩; have hcx2 := (hf2.cell (p := ⟨b, off + k, none⟩) (by simp; omega) (by simp; omega)).trans hcx) | (go_at_call 19; refine (Here_any _ h2).mono ?_; rintro e w' ⟨rfl, rfl⟩) | (go_at_call 20; refine (Unused_any _ h2 (by omega) (by omega) (by omega) (by omega)).mono ?_; rintro e w' ⟨rfl, q, rfl⟩))
            go_roundw
            case rel => exact ⟨k + 1, here, by omega, by go_num, rfl, by omega, by omega, (hfr.then hf2 (fun j hj e => by omega)).drewN q, h2.drewN q⟩
            case measure => simp [intOf]; omega
          · have c2' : 77824 - here ≤ x := by omega
            clear c2
            have c3 : ¬ (77824 + dict - here < x ∨ x < 77824 - here) := by omega
            rw [show alT dict here x = 0 by unfold alT; rw [if_neg c3], show alH dict here x = here + x by unfold alH; rw [if_neg c3]] at hA
            clear c3
            have HA := Lib.hid hA
            clear hA
            go_wp2_with (first | (go_at_call 18; refine HA.out.mono ?_; rintro e w2 ⟨rfl, hf2, h2⟩; have hcx2 := (hf2.cell (p := ⟨b, off + k, none⟩) (by simp; omega) (by simp; omega)).trans hcx) | (go_at_call 19; refine (Here_any _ h2).mono ?_; rintro e w' ⟨rfl, rfl⟩) | (go_at_call 20; refine (Unused_any _ h2 (by omega) (by omega) (by omega) (by omega)).mono ?_; rintro e w' ⟨rfl, q, rfl⟩))
            go_roundw
            case rel => exact ⟨k + 1, here + x, by omega, by go_num, rfl, by omega, by omega, (hfr.then hf2 (fun j hj e => by omega)).drewN q, h2.drewN q⟩
            case measure => simp [intOf]; omega
      · obtain rfl : k = zs.length := by omega
        go_wp2_with (go_at_call 13; refine (awake9 _).mono ?_; rintro e w2 ⟨rfl, hf2⟩)
        go_ret
        exact ⟨rfl, hfr.trans hf2⟩
  · have HN := Lib.hid (New_err dict 0 w hn)
    clear hn
    go_enter Try.func5, Try.ntmps5
    go_wp2_with (first | (go_at_call 10; refine HN.out.mono ?_; rintro e w1 ⟨rfl, rfl⟩) | (go_at_call 13; refine (awake9 _).mono ?_; rintro e w2 ⟨rfl, hf2⟩))
    go_ret
    exact ⟨rfl, hf2⟩

end Go.Proofs.Ytkgihajpobajaaa
