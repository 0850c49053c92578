/- The law's own small functions of chapter 9: awake. -/
import Derived.Test.YtkgihajpobajaaaNew
namespace Go.Proofs.Ytkgihajpobajaaa
open Go Go.RowKit

set_option maxHeartbeats 1000000 in
theorem awake9 (w : World) : Calls Try.prog 13 #[] w fun e w' => e = .returned (.bool true) ∧ Fr0 w w' := by
  have hN := New_ok 4096 8192 w (by unfold newOk; decide)
  rw [show (12288 + (4096 : Int) + 8192).toNat = 24576 from rfl] at hN
  have HN := Lib.hid hN
  clear hN
  go_enter Try.func13, Try.ntmps13
  go_wp2_with (go_at_call 10; refine HN.out.mono ?_; rintro e w1 ⟨rfl, hf1, hs1, h1⟩)
  have hF := Fetch_any 77825 w1 h1 (by unfold i64; decide)
  rw [noughts_length, show reachT 24576 77825 8 (alignT 8 77825) = -23 from rfl, show getV (noughts 24576) 77825 8 = 0 from by unfold getV; rw [noughts_length, if_neg (by decide)]] at hF
  have HF := Lib.hid hF
  clear hF
  refine HF.out.mono ?_
  rintro e w2 ⟨rfl, hf2⟩
  have h2 := h1.fr0 hf2
  have hS := Store_any 77824 7 w2 h2 (by unfold i64; decide)
  rw [noughts_length, show reachT 24576 77824 8 (orT (alignT 8 77824) (openT 77824 8)) = 0 from rfl] at hS
  have HS := Lib.hid hS
  clear hS
  go_wp2_with fail
  refine HS.out.mono ?_
  rintro e w3 ⟨rfl, hf3, h3⟩
  have hl : (putB (noughts 24576) 77824 7 8).length = 24576 := by
    unfold putB
    rw [noughts_length, if_pos (by decide), poke_length _ _ _ (by rw [noughts_length, leB_length]; decide), noughts_length]
  have hS := Store_any 65536 1 w3 h3 (by unfold i64; decide)
  rw [hl, show reachT 24576 65536 8 (orT (alignT 8 65536) (openT 65536 8)) = -20 from rfl] at hS
  have HS := Lib.hid hS
  clear hS hl
  go_wp2_with fail
  refine HS.out.mono ?_
  rintro e w4 ⟨rfl, hf4, _⟩
  go_wp2_with fail
  go_ret
  have hz := hf1.size
  exact ⟨rfl, ((hf1.trans hf2).then hf3 (fun k hk e => by omega)).then hf4 (fun k hk e => by omega)⟩

end Go.Proofs.Ytkgihajpobajaaa
