/- SpaceKeeps: the walk. -/
import Derived.Test.YtkgihajpobajaaaAwake9
import Derived.Test.YtkgihajpobajaaaPure9
namespace Go.Proofs.Ytkgihajpobajaaa
open Go Go.RowKit

set_option maxRecDepth 100000 in
set_option maxHeartbeats 2000000 in
theorem keeps_walk (a v o : Int) (w : World) (ha : i64 a) (hv : i64 v) (ho : i64 o) :
    Calls Try.prog 3 #[.int .i64 a, .int .i64 v, .int .i64 o] w fun e w' => e = .returned (.bool true) ∧ Fr0 w w' := by
  have hN := New_ok 4096 8192 w (by unfold newOk; decide)
  rw [show (12288 + (4096 : Int) + 8192).toNat = 24576 from rfl] at hN
  have HN := Lib.hid hN
  clear hN
  go_enter Try.func3, Try.ntmps3
  go_wp2_with (go_at_call 10; refine HN.out.mono ?_; rintro e w1 ⟨rfl, hf1, hs1, h1⟩)
  have hz := hf1.size
  refine (Byte_any o w1 h1 ho).mono ?_
  rintro e w2 ⟨rfl, hf2⟩
  have h2 := h1.fr0 hf2
  go_wp2_with fail
  refine (Store_any a v w2 h2 ha).mono ?_
  rintro e w3 ⟨rfl, hf3, h3⟩
  have hf13 : Fr0 w w3 := (hf1.trans hf2).then hf3 (fun k hk e => by omega)
  by_cases hT : reachT (noughts 24576).length a 8 (orT (alignT 8 a) (openT a 8)) = 0
  · rw [hT]
    obtain ⟨r1, r2, r3, r4⟩ := put_T (by omega) hT
    have hF := Fetch_any a w3 h3 ha
    rw [keeps_fetch hv hT, putB_length (by omega), reachT_in ⟨by omega, r1, r2⟩, r3] at hF
    have HF := Lib.hid hF
    have HT := Lib.hid hT
    clear hF hT r3 r4
    go_wp2_with fail
    refine HF.out.mono ?_
    rintro e w4 ⟨rfl, hf4⟩
    go_wp2_with fail
    rw [noughts_length] at r2
    go_loopw [13] (fun i wr => ∃ k : Nat, k ≤ 8 ∧ i = .int .i64 k ∧ Fr0 w3 wr) (fun i _ => 8 - (intOf i).toNat)
    case atStart => exact ⟨0, by omega, rfl, hf4⟩
    case round =>
      obtain ⟨k, hk, rfl, hfr⟩ := hrel
      have h5 := h3.fr0 hfr
      by_cases hlt : k < 8
      · have hB := Byte_any (a + k) wr h5 ⟨by omega, by have := h3.len; rw [putB_length (by omega)] at this; omega⟩
        obtain ⟨e1, e2⟩ := keeps_byte (v := v) (noughts_bytes 24576) HT.out k hlt
        rw [e1, e2] at hB
        have hne : (v / 2 ^ (8 * k) % 256 != IntKind.u64.wrap v / 2 ^ (8 * k) % 256) = false := by rw [byte_of v k hlt]; simp
        have HB := Lib.hid hB
        clear hB e1 e2
        go_wp2_with (go_at_call 11; refine HB.out.mono ?_; rintro e w5 ⟨rfl, hf5⟩)
        go_roundw
        case rel => exact ⟨k + 1, by omega, by go_num, hfr.trans hf5⟩
        case measure => simp [intOf]; omega
      · obtain rfl : k = 8 := by omega
        have hB := Byte_any o wr h5 ho
        rw [putB_length (by omega)] at hB
        by_cases hin : a ≤ o ∧ o < a + 8
        · obtain ⟨i1, i2⟩ := hin
          have HB := Lib.hid hB
          clear hB
          go_wp2_with (go_at_call 11; refine HB.out.mono ?_; rintro e w5 ⟨rfl, hf5⟩)
          refine (awake9 w5).mono ?_
          rintro e w6 ⟨rfl, hf6⟩
          go_wp2_with fail
          go_ret
          exact ⟨rfl, hf13.trans (hfr.trans (hf5.trans hf6))⟩
        · rw [keeps_other (noughts_bytes 24576) HT.out (by omega)] at hB
          obtain ⟨g1, hg1⟩ : ∃ x, getV (noughts 24576) o 1 = x := ⟨_, rfl⟩
          obtain ⟨g2, hg2⟩ : ∃ x, reachT (noughts 24576).length o 1 (alignT 1 o) = x := ⟨_, rfl⟩
          rw [hg1, hg2] at hB
          rw [hg1, hg2]
          clear hg1 hg2
          have HB := Lib.hid hB
          clear hB
          by_cases i1 : a ≤ o
          · have i2 : a + 8 ≤ o := by omega
            clear hin
            go_wp2_with (go_at_call 11; refine HB.out.mono ?_; rintro e w5 ⟨rfl, hf5⟩)
            refine (awake9 w5).mono ?_
            rintro e w6 ⟨rfl, hf6⟩
            go_wp2_with fail
            go_ret
            exact ⟨rfl, hf13.trans (hfr.trans (hf5.trans hf6))⟩
          · have i2 : o < a := by omega
            clear hin i1
            go_wp2_with (go_at_call 11; refine HB.out.mono ?_; rintro e w5 ⟨rfl, hf5⟩)
            refine (awake9 w5).mono ?_
            rintro e w6 ⟨rfl, hf6⟩
            go_wp2_with fail
            go_ret
            exact ⟨rfl, hf13.trans (hfr.trans (hf5.trans hf6))⟩
  · have hT' : (reachT (noughts 24576).length a 8 (orT (alignT 8 a) (openT a 8)) != 0) = true := by simpa using hT
    clear hT
    go_wp2_with fail
    refine (awake9 w3).mono ?_
    rintro e w4 ⟨rfl, hf4⟩
    go_wp2_with fail
    go_ret
    exact ⟨rfl, hf13.trans hf4⟩

end Go.Proofs.Ytkgihajpobajaaa
