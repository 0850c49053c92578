/- The table of words: rows. -/
import Derived.Test.YtoliidlaahhcpaaWpcsA
import Derived.Test.YtoliidlaahhcpaaWpcsB
namespace Go.Proofs.Ytoliidlaahhcpaa
open Go Go.RowKit
set_option linter.unusedVariables false

instance dW4 : DecidableEq (Int × Int × Int × Int) := inferInstance
instance dW5 : DecidableEq (Nat × Int × Int × Int × Int) := @instDecidableEqProd _ _ _ dW4
instance dW6 : DecidableEq (Int × Nat × Int × Int × Int × Int) := @instDecidableEqProd _ _ _ dW5
instance dW7 : DecidableEq WRow := @instDecidableEqProd _ _ _ dW6
def tabK : Nat → List WRow
  | 0 => tab0
  | 1 => tab1
  | 2 => tab2
  | 3 => tab3
  | 4 => tab4
  | 5 => tab5
  | 6 => tab6
  | 7 => tab7
  | 8 => tab8
  | 9 => tab9
  | _ => []
theorem tabK_at : ((List.range 421).all fun n => decide (tab[n]? = (tabK (n / 45))[n % 45]?)) = true := by decide +kernel
theorem tabK_len : ((List.range 10).all fun k => decide ((tabK k).length = if k < 9 then 45 else 16)) = true := by decide +kernel

set_option maxRecDepth 100000 in
set_option maxHeartbeats 8000000 in
theorem rows_any (n k : Nat) (hk : k < 10) (hn : n / 45 = k) (w : World) : Calls Try.prog 9 #[.int .i64 n] w fun e w' => ∃ g, e = .returned (.slice (some ⟨g, 0, none⟩) (tabK k).length (tabK k).length) ∧ w.heap.size ≤ g ∧ Blk w' g 23 (cellsW (tabK k)) ∧ Fr0 w w' := by
  have hq : Int.tdiv (n : Int) 45 = (k : Int) := by rw [Int.tdiv_eq_ediv_of_nonneg (by omega)]; omega
  have hn2 : n < 450 := by omega
  clear hn
  rcases (show k = 0 ∨ k = 1 ∨ k = 2 ∨ k = 3 ∨ k = 4 ∨ k = 5 ∨ k = 6 ∨ k = 7 ∨ k = 8 ∨ k = 9 by omega) with rfl | rfl | rfl | rfl | rfl | rfl | rfl | rfl | rfl | rfl
  all_goals
    go_enter Try.func9, Try.ntmps9
    go_wp2_with (first | (go_at_call 15; refine (piece0_any _).mono ?_; rintro e w' ⟨g, rfl, hg, hb, hf⟩) | (go_at_call 16; refine (piece1_any _).mono ?_; rintro e w' ⟨g, rfl, hg, hb, hf⟩) | (go_at_call 17; refine (piece2_any _).mono ?_; rintro e w' ⟨g, rfl, hg, hb, hf⟩) | (go_at_call 18; refine (piece3_any _).mono ?_; rintro e w' ⟨g, rfl, hg, hb, hf⟩) | (go_at_call 19; refine (piece4_any _).mono ?_; rintro e w' ⟨g, rfl, hg, hb, hf⟩) | (go_at_call 20; refine (piece5_any _).mono ?_; rintro e w' ⟨g, rfl, hg, hb, hf⟩) | (go_at_call 21; refine (piece6_any _).mono ?_; rintro e w' ⟨g, rfl, hg, hb, hf⟩) | (go_at_call 22; refine (piece7_any _).mono ?_; rintro e w' ⟨g, rfl, hg, hb, hf⟩) | (go_at_call 23; refine (piece8_any _).mono ?_; rintro e w' ⟨g, rfl, hg, hb, hf⟩) | (go_at_call 24; refine (piece9_any _).mono ?_; rintro e w' ⟨g, rfl, hg, hb, hf⟩))
    go_ret
    exact ⟨g, rfl, hg, hb, hf⟩
end Go.Proofs.Ytoliidlaahhcpaa
