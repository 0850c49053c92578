/- The table of words: folded. -/
import Derived.Test.YtoliidlaahhcpaaWpure
import Derived.Test.YtoliidlaahhcpaaByt
import Derived.LoopTactic
namespace Go.Proofs.Ytoliidlaahhcpaa
open Go Go.RowKit
set_option linter.unusedVariables false

/-- The first j bytes folded. -/
def mixL (l : List Int) (j : Nat) : List Int := lowL (l.take j) ++ l.drop j
theorem mixL_len (l : List Int) (j : Nat) (hj : j ≤ l.length) : (mixL l j).length = l.length := by simp [mixL, lowL]; omega
theorem mixL_at (l : List Int) (j : Nat) {x : Int} (hx : l[j]? = some x) : (mixL l j)[j]? = some x := by
  have hj := (List.getElem?_eq_some_iff.1 hx).1
  unfold mixL
  have hl : (lowL (l.take j)).length = j := by simp [lowL]; omega
  rw [List.getElem?_append_right (by omega), hl, List.getElem?_drop, Nat.sub_self, Nat.add_zero]
  exact hx
theorem mixL_set (l : List Int) (j : Nat) {x : Int} (hx : l[j]? = some x) : (mixL l j).set j (low x) = mixL l (j + 1) := by
  have hj := (List.getElem?_eq_some_iff.1 hx).1
  have hl : (lowL (l.take j)).length = j := by simp [lowL]; omega
  unfold mixL
  rw [List.set_append_right _ _ (by omega), hl, Nat.sub_self, List.drop_eq_getElem_cons hj, List.set_cons_zero]
  have e : l[j] = x := by
    rw [List.getElem?_eq_getElem hj] at hx
    injection hx
  rw [List.take_succ_eq_append_getElem hj, e]
  simp [lowL]
theorem mixL_keep (l : List Int) (j : Nat) {x : Int} (hx : l[j]? = some x) (h : low x = x) : mixL l j = mixL l (j + 1) := by
  rw [← mixL_set l j hx, h]
  apply List.ext_getElem?
  intro i
  rw [List.getElem?_set]
  by_cases hi : j = i
  · subst hi
    have hj := (List.getElem?_eq_some_iff.1 hx).1
    rw [if_pos rfl, if_pos (by rw [mixL_len _ _ (by omega)]; exact hj), mixL_at l j hx]
  · rw [if_neg hi]
theorem mixL_all (l : List Int) : mixL l l.length = lowL l := by simp [mixL]
theorem mixL_none (l : List Int) : mixL l 0 = l := by simp [mixL, lowL]
theorem low_bytes {l : List Int} (hb : ∀ x ∈ l, 0 ≤ x ∧ x ≤ 255) : ∀ x ∈ lowL l, 0 ≤ x ∧ x ≤ 255 := fun x hx => by
  obtain ⟨y, hy, rfl⟩ := List.mem_map.1 hx
  have := hb y hy
  unfold low
  split <;> omega

set_option maxHeartbeats 4000000 in
theorem folded_any (l : List Int) (hb : ∀ x ∈ l, 0 ≤ x ∧ x ≤ 255) (hlen : l.length ≤ 9223372036854775807) (w : World) : Calls Try.prog 11 #[.string (strOfNums l)] w fun e w' => e = .returned (.string (strOfNums (lowL l))) ∧ Fr0 w w' := by
  obtain ⟨cap, w1, hcv, hby, hf1, hsz⟩ := convB w l hb
  obtain ⟨n, hn⟩ : ∃ n, l.length = n := ⟨_, rfl⟩
  obtain ⟨g, hg⟩ : ∃ g, w.heap.size = g := ⟨_, rfl⟩
  have HN := Lib.hid hn
  have HB := Lib.hid hb
  have HG := Lib.hid hg
  rw [hn] at hcv hlen
  rw [hg] at hcv hby
  have HBY := Lib.hid hby
  have HF1 := Lib.hid hf1
  clear hby hf1 hsz hb hn hg
  go_enter Try.func11, Try.ntmps11
  go_wp2_with fail
  go_loopw [10] (fun i wr => ∃ j : Nat, j ≤ n ∧ i = .int .i64 j ∧ Byt wr g (mixL l j) ∧ Fr0 w wr) (fun i _ => n - (intOf i).toNat)
  case atStart => exact ⟨0, by omega, rfl, by rw [mixL_none]; exact HBY.out, HF1.out⟩
  case round =>
    obtain ⟨j, hj, rfl, hby, hfr⟩ := hrel
    by_cases hjn : j < n
    · have hjI : (j : Int) < (n : Int) := by omega
      obtain ⟨x, hx⟩ : ∃ x, l[j]? = some x := ⟨_, List.getElem?_eq_getElem (by rw [HN.out]; exact hjn)⟩
      have hx0 := HB.out x (List.mem_of_getElem? hx)
      have c0 := hby.cell (mixL_at l j hx)
      have y0 := hby.frozen (i := j) (by rw [mixL_len _ _ (by rw [HN.out]; omega), HN.out]; exact hjn)
      have HST := Lib.hid (fun v => hby.set_ (j := j) (by rw [mixL_len _ _ (by rw [HN.out]; omega), HN.out]; exact hjn) v)
      have HX := Lib.hid hx
      have HBR := Lib.hid hby
      have HFR := Lib.hid hfr
      obtain ⟨x0, x1⟩ := hx0
      clear hx hby hfr
      by_cases h1 : 65 ≤ x ∧ x ≤ 90
      · obtain ⟨h1, h2⟩ := h1
        have z1 : IntKind.u8.wrap (x - 65) = x - 65 := IntWalk.u8_in _ (by omega)
        have z2 : IntKind.u8.wrap (x - 65 + 97) = x + 32 := by rw [IntWalk.u8_in _ (by omega)]; omega
        go_wp2_with fail
        have hl2 := HST.out (x + 32)
        rw [show x + 32 = low x by unfold low; rw [if_pos ⟨h1, h2⟩], mixL_set l j HX.out] at hl2
        rw [show x + 32 = low x by unfold low; rw [if_pos ⟨h1, h2⟩]]
        exact ⟨⟨j + 1, by omega, by push_cast; rfl, hl2, HFR.out.setCell (.inr (by rw [HG.out]; exact Nat.le_refl _)) _⟩, by simp [intOf]; omega⟩
      · have hlow : low x = x := by unfold low; rw [if_neg h1]
        rcases (show x < 65 ∨ (65 ≤ x ∧ 90 < x) by omega) with h2 | ⟨h2, h3⟩
        all_goals
          go_wp2_with fail
          exact ⟨⟨j + 1, by omega, by push_cast; rfl, by rw [← mixL_keep l j HX.out hlow]; exact HBR.out, HFR.out⟩, by simp [intOf]; omega⟩
    · obtain rfl : j = n := by omega
      have hcb := hby.conv cap
      rw [mixL_len _ _ (by rw [HN.out]; omega), HN.out, show mixL l j = lowL l by rw [← HN.out]; exact mixL_all l] at hcb
      have HFR := Lib.hid hfr
      clear hby hfr
      go_wp2_with fail
      go_ret
      exact ⟨rfl, HFR.out⟩
end Go.Proofs.Ytoliidlaahhcpaa
