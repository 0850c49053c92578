/- place: the key of a name in a list. -/
import Derived.Test.YtmhjnbolngdijaaLow
import Derived.Test.YtmhjnbolngdijaaByt
import Derived.LoopTactic
namespace Go.Proofs.Ytmhjnbolngdijaa
open Go Go.RowKit
set_option linter.unusedVariables false

set_option maxRecDepth 100000 in
set_option maxHeartbeats 4000000 in
theorem place_any (list : Int) (l : List Int) (hb : ∀ x ∈ l, 0 ≤ x ∧ x ≤ 255) (hlen : l.length ≤ 9223372036854775807) (w : World) : Calls Try.prog 37 #[.int .i64 list, .string (strOfNums l)] w fun e w' => e = .returned (.agg #[.int .i64 list, .string (strOfNums (lowL l))]) ∧ Fr0 w w' := by
  have hz0 := Blk.new w 84 #[.int .i64 0, .string ⟨#[]⟩]
  have hf0 : Fr0 w (w.alloc (.cells #[.int .i64 0, .string ⟨#[]⟩] 84)) := (Fr.refl _ w).alloc _
  obtain ⟨cap, w1, hcv, hby, hf1, hsz⟩ := convB (w.alloc (.cells #[.int .i64 0, .string ⟨#[]⟩] 84)) l hb
  obtain ⟨n, hn⟩ : ∃ n, l.length = n := ⟨_, rfl⟩
  obtain ⟨z, hz⟩ : ∃ z, w.heap.size = z := ⟨_, rfl⟩
  obtain ⟨g, hg⟩ : ∃ g, (w.alloc (.cells #[.int .i64 0, .string ⟨#[]⟩] 84)).heap.size = g := ⟨_, rfl⟩
  have hgz : g = z + 1 := by rw [← hg, ← hz]; simp
  have HN := Lib.hid hn
  have HB := Lib.hid hb
  have HG := Lib.hid (show w.heap.size ≤ g ∧ w.heap.size ≤ z ∧ z ≠ g by omega)
  rw [hn] at hcv hlen
  rw [hg] at hcv hby
  rw [hz] at hz0
  have HBY := Lib.hid hby
  have HZ1 := Lib.hid (hz0.fr0 hf1)
  have HF1 := Lib.hid (hf0.trans hf1)
  clear hby hf1 hsz hb hn hg hgz hz0 hf0
  go_enter Try.func37, Try.ntmps37
  go_wp2_with fail
  go_loopw [12] (fun i wr => ∃ j : Nat, j ≤ n ∧ i = .int .i64 j ∧ Byt wr g (mixL l j) ∧ Fr0 w wr ∧ Blk wr z 84 #[.int .i64 0, .string ⟨#[]⟩]) (fun i _ => n - (intOf i).toNat)
  case atStart => exact ⟨0, by omega, rfl, by rw [mixL_none]; exact HBY.out, HF1.out, HZ1.out⟩
  case round =>
    obtain ⟨j, hj, rfl, hby, hfr, hzb⟩ := hrel
    have HZB := Lib.hid hzb
    clear hzb
    by_cases hjn : j < n
    · have hjI : (j : Int) < (n : Int) := by omega
      obtain ⟨x, hx⟩ : ∃ x, l[j]? = some x := ⟨_, List.getElem?_eq_getElem (by rw [HN.out]; exact hjn)⟩
      have hx0 := HB.out x (List.mem_of_getElem? hx)
      have c0 := hby.cell (mixL_at l j hx)
      have y0 := hby.frozen (i := j) (by rw [mixL_len _ _ (by rw [HN.out]; omega), HN.out]; exact hjn)
      have HST := Lib.hid (fun v => hby.set_ (j := j) (by rw [mixL_len _ _ (by rw [HN.out]; omega), HN.out]; exact hjn) v)
      have HX := Lib.hid hx
      have HBR := Lib.hid hby
      have HFR := Lib.hid hfr
      obtain ⟨x0, x1⟩ := hx0
      clear hx hby hfr
      by_cases h1 : 65 ≤ x ∧ x ≤ 90
      · obtain ⟨h1, h2⟩ := h1
        have z1 : IntKind.u8.wrap (x - 65) = x - 65 := IntWalk.u8_in _ (by omega)
        have z2 : IntKind.u8.wrap (x - 65 + 97) = x + 32 := by rw [IntWalk.u8_in _ (by omega)]; omega
        go_wp2_with fail
        have hl2 := HST.out (x + 32)
        rw [show x + 32 = low x by unfold low; rw [if_pos ⟨h1, h2⟩], mixL_set l j HX.out] at hl2
        rw [show x + 32 = low x by unfold low; rw [if_pos ⟨h1, h2⟩]]
        exact ⟨⟨j + 1, by omega, by push_cast; rfl, hl2, HFR.out.setCell (.inr HG.out.1) _, HZB.out.far (p := ⟨g, j, none⟩) HG.out.2.2 _⟩, by simp [intOf]; omega⟩
      · have hlow : low x = x := by unfold low; rw [if_neg h1]
        rcases (show x < 65 ∨ (65 ≤ x ∧ 90 < x) by omega) with h2 | ⟨h2, h3⟩
        all_goals
          go_wp2_with fail
          exact ⟨⟨j + 1, by omega, by push_cast; rfl, by rw [← mixL_keep l j HX.out hlow]; exact HBR.out, HFR.out, HZB.out⟩, by simp [intOf]; omega⟩
    · obtain rfl : j = n := by omega
      have hcb := hby.conv cap
      rw [mixL_len _ _ (by rw [HN.out]; omega), HN.out, show mixL l j = lowL l by rw [← HN.out]; exact mixL_all l] at hcb
      have HFR := Lib.hid hfr
      have z0 := HZB.out.cell 0
      have z1 := HZB.out.cell 1
      have y0 := HZB.out.frozen 0
      have y1 := HZB.out.frozen 1
      simp at z0 z1
      clear hby hfr
      go_wp2_with fail
      have hR := (HZB.out.set_ 0 (.int .i64 list)).set_ 1 (.string (strOfNums (lowL l)))
      have hFW := (HFR.out.setCell (p := ⟨z, 0, none⟩) (.inr HG.out.2.1) (.int .i64 list)).setCell (p := ⟨z, 1, none⟩) (.inr HG.out.2.1) (.string (strOfNums (lowL l)))
      simp only [List.setIfInBounds_toArray, List.set_cons_zero, List.set_cons_succ] at hR
      generalize ((wr.setCell ⟨z, 0, none⟩ (.int .i64 list)).setCell ⟨z, 1, none⟩ (.string (strOfNums (lowL l)))) = W at *
      have r0 : W.cell? ⟨z, 0, none⟩ = some (.int .i64 list) := hR.cell 0
      have r1 : W.cell? ⟨z, 1, none⟩ = some (.string (strOfNums (lowL l))) := hR.cell 1
      clear hR z0 z1 y0 y1
      exact bodyPost_ret (v := .agg #[.int .i64 list, .string (strOfNums (lowL l))]) (by simp [results, Try.results37, go_sem, r0, r1]) rfl ⟨rfl, hFW⟩
end Go.Proofs.Ytmhjnbolngdijaa
