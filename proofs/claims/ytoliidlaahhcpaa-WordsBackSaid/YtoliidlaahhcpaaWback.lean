/- The walk of WordsBack. -/
import Derived.Test.YtoliidlaahhcpaaWnamed
namespace Go.Proofs.Ytoliidlaahhcpaa
open Go Go.RowKit
set_option linter.unusedVariables false
attribute [local go_sem] Oper.semAt_some

def zrow : Value := .agg #[.string ⟨#[]⟩, .int .i64 0, .bool false, .bool false, .int .i64 0, .int .i64 0, .int .i64 0, .int .i64 0]
set_option maxHeartbeats 2000000 in
theorem Row_no (n : Int) (h : n < 1 ∨ 421 < n) (w : World) : Calls Try.prog 4 #[.int .i64 n] w fun e w' => e = .returned (.tuple #[zrow, .bool false]) ∧ Fr0 w w' := by
  have HZ0 := Lib.hid (Blk.new w 23 #[.string ⟨#[]⟩, .int .i64 0, .bool false, .bool false, .int .i64 0, .int .i64 0, .int .i64 0, .int .i64 0])
  have HF0 := Lib.hid ((Fr.refl (fun _ => False) w).alloc (.cells #[.string ⟨#[]⟩, .int .i64 0, .bool false, .bool false, .int .i64 0, .int .i64 0, .int .i64 0, .int .i64 0] 23))
  rcases (show n < 1 ∨ (1 ≤ n ∧ 421 < n) by omega) with h | ⟨h1, h⟩
  all_goals
    go_enter Try.func4, Try.ntmps4
    go_wp2_with fail
    have hb := HZ0.out
    have hf := HF0.out
    generalize (w.alloc (.cells #[.string ⟨#[]⟩, .int .i64 0, .bool false, .bool false, .int .i64 0, .int .i64 0, .int .i64 0, .int .i64 0] 23)) = W at *
    generalize w.heap.size = g at *
    obtain ⟨r0, r1, r2, r3, r4, r5, r6, r7⟩ : W.cell? ⟨g, 0, none⟩ = some (.string ⟨#[]⟩) ∧ W.cell? ⟨g, 1, none⟩ = some (.int .i64 0) ∧ W.cell? ⟨g, 2, none⟩ = some (.bool false) ∧ W.cell? ⟨g, 3, none⟩ = some (.bool false) ∧ W.cell? ⟨g, 4, none⟩ = some (.int .i64 0) ∧ W.cell? ⟨g, 5, none⟩ = some (.int .i64 0) ∧ W.cell? ⟨g, 6, none⟩ = some (.int .i64 0) ∧ W.cell? ⟨g, 7, none⟩ = some (.int .i64 0) := ⟨hb.cell 0, hb.cell 1, hb.cell 2, hb.cell 3, hb.cell 4, hb.cell 5, hb.cell 6, hb.cell 7⟩
    exact bodyPost_ret (v := .tuple #[zrow, .bool false]) (by simp [results, Try.results4, go_sem, r0, r1, r2, r3, r4, r5, r6, r7, zrow]) rfl ⟨rfl, hf⟩

theorem tab_first : tab[0]? = some ([68, 82, 79, 80], 20, 0, 1, 0, 0, 0) := by decide +kernel
theorem tab_second : tab[1]? = some ([68, 85, 80], 20, 0, 1, 2, 0, 0) := by decide +kernel
theorem cnt_19 : cntW 19 421 = 0 := by decide +kernel

set_option maxHeartbeats 4000000 in
theorem awake18 (w : World) : Calls Try.prog 5 #[] w fun e w' => e = .returned (.bool true) ∧ Fr0 w w' := by
  have hR := fun V => Row_any 0 _ tab_first V
  rw [rowV_eq] at hR
  dsimp only at hR
  rw [show strOfNums [68, 82, 79, 80] = ⟨#[68, 82, 79, 80]⟩ from rfl] at hR
  generalize flag ((0 : Nat) : Int) 1 = b1 at hR
  generalize flag ((0 : Nat) : Int) 2 = b2 at hR
  have HR := Lib.hid hR
  have hFi := fun V => Find_any [100, 117, 112] (by decide) (by decide) V
  have hmb := mapW_back tab_second 421 (by decide) (by decide)
  rw [show lowL [100, 117, 112] = lowL [68, 85, 80] by decide, hmb, show strOfNums [100, 117, 112] = ⟨#[100, 117, 112]⟩ from rfl] at hFi
  have HFI := Lib.hid hFi
  have hC := fun V => Count_any 19 V
  rw [cnt_19] at hC
  have HC := Lib.hid hC
  clear hR hFi hmb hC
  go_enter Try.func5, Try.ntmps5
  go_wp2_with (first | (go_at_call 4; refine (HR.out _).mono ?_; rintro e w1 ⟨rfl, hf1⟩; have HF1 := Lib.hid hf1; clear hf1) | (go_at_call 6; refine (HFI.out _).mono ?_; rintro e w2 ⟨rfl, hf2⟩; have HF2 := Lib.hid ((HF1.out.alloc _).trans hf2); clear hf2) | (go_at_call 7; refine (HC.out _).mono ?_; rintro e w3 ⟨rfl, hf3⟩; have HF3 := Lib.hid (HF2.out.trans hf3); clear hf3))
  go_ret
  exact ⟨rfl, HF3.out⟩

theorem cntW_pos (layer : Int) {j : Nat} {r : WRow} (hr : tab[j]? = some r) (hl : r.2.1 ≤ layer) : ∀ n, j < n → 1 ≤ cntW layer n
  | 0, h => by omega
  | n + 1, h => by
    have ec : cntW layer (n + 1) = match tab[n]? with
      | some r => if r.2.1 ≤ layer then cntW layer n + 1 else cntW layer n
      | none => cntW layer n := rfl
    rw [ec]
    rcases Nat.lt_or_ge j n with h1 | h1
    · have := cntW_pos layer hr hl n h1
      cases tab[n]? with
      | none => exact this
      | some r0 =>
        dsimp only
        by_cases h0 : r0.2.1 ≤ layer
        · rw [if_pos h0]; omega
        · rw [if_neg h0]; exact this
    · obtain rfl : j = n := by omega
      rw [hr]
      dsimp only
      rw [if_pos hl]
      omega

set_option maxRecDepth 100000 in
set_option maxHeartbeats 8000000 in
theorem back_walk (n layer : Int) (w : World) (hn : -9223372036854775808 ≤ n ∧ n ≤ 9223372036854775807) (hlr : -9223372036854775808 ≤ layer ∧ layer ≤ 9223372036854775807) :
    Calls Try.prog 3 #[.int .i64 n, .int .i64 layer] w fun e w' => e = .returned (.bool true) ∧ Fr0 w w' := by
  have HAW := Lib.hid (fun W => awake18 W)
  by_cases hin : 1 ≤ n ∧ n ≤ 421
  · obtain ⟨k, rfl⟩ : ∃ k : Nat, n = (k : Int) + 1 := ⟨(n - 1).toNat, by omega⟩
    have hk : k < tab.length := by rw [tab_len]; omega
    obtain ⟨r, hr⟩ : ∃ r, tab[k]? = some r := ⟨_, List.getElem?_eq_getElem hk⟩
    have hR := fun V => Row_any k r hr V
    rw [rowV_eq] at hR
    have hFi := fun V => Find_any r.1 (name_bytes hr) (by have := name_len hr; omega) V
    rw [mapW_back hr 421 (by omega) (by omega)] at hFi
    have hC := fun V => Count_any layer V
    have hcl := cntW_le layer 421
    have hO0 := fun V => Of_any layer 0 (by omega) V
    have hO1 := fun V => Of_any layer 1 (by omega) V
    have hOc := fun V => Of_any layer (cntW layer 421) (by omega) V
    have hOs := fun V => Of_any layer ((cntW layer 421 : Int) + 1) (by omega) V
    rw [(outW_spec layer 0 421).1 (.inl (by omega))] at hO0
    rw [(outW_spec layer ((cntW layer 421 : Int) + 1) 421).1 (.inr (by omega))] at hOs
    have s1 := outW_spec layer 1 421
    have sc := outW_spec layer (cntW layer 421) 421
    have hcp := fun hl => cntW_pos layer hr hl 421 (by omega)
    have scl := fun h1 hl => sc.2.2 rfl h1 k r (by omega) hr hl
    have htc := tab_counts
    simp only [List.all_eq_true, Bool.and_eq_true, decide_eq_true_eq] at htc
    obtain ⟨ht, hg⟩ := htc r (List.mem_of_getElem? hr)
    obtain ⟨z, hz⟩ : ∃ z, r.2.2.2.1 = z := ⟨_, rfl⟩
    generalize outW layer 1 421 = o1 at *
    generalize outW layer (cntW layer 421) 421 = oc at *
    generalize cntW layer 421 = c at *
    have HR := Lib.hid hR
    have HFI := Lib.hid hFi
    have HC := Lib.hid hC
    have HO0 := Lib.hid hO0
    have HO1 := Lib.hid hO1
    have HOC := Lib.hid hOc
    have HOS := Lib.hid hOs
    have hk421 : k < 421 := by rw [← tab_len]; exact hk
    have hne : ((k : Int) + 1 ≠ (k : Int) + 1) = False := by simp
    clear hR hFi hC hO0 hO1 hOc hOs hr hk hz z
    have x1 : IntKind.i64.wrap ((c : Int) + 1) = (c : Int) + 1 := IntWalk.i64_in _ (by omega)
    have hcase : (c = 0 ∧ o1 = 0 ∧ layer < r.2.1) ∨ (0 < c ∧ (0 : Int) < (c : Int) ∧ (c : Int) ≤ oc ∧ 1 ≤ o1 ∧ ((c : Int) == 0) = false ∧ (o1 == 0) = false ∧ (layer < r.2.1 ∨ (r.2.1 ≤ layer ∧ (k : Int) + 1 ≤ oc))) := by
      rcases Nat.eq_zero_or_pos c with h0 | h0
      · refine .inl ⟨h0, s1.1 (.inr (by omega)), ?_⟩
        rcases (show layer < r.2.1 ∨ r.2.1 ≤ layer by omega) with h | h
        · exact h
        · have := hcp h
          omega
      · refine .inr ⟨h0, by omega, (sc.2.1 (by omega) (by omega)).1, (s1.2.1 (by omega) (by omega)).1, by simp; omega, by have := (s1.2.1 (by omega) (by omega)).1; simp; omega, ?_⟩
        rcases (show layer < r.2.1 ∨ r.2.1 ≤ layer by omega) with h | h
        · exact .inl h
        · exact .inr ⟨h, scl (by omega) h⟩
    clear s1 sc scl hcp htc
    rcases hcase with ⟨rfl, rfl, hl⟩ | ⟨h0, h0I, hoc, ho1, hq1, hq2, hl | ⟨hl, hko⟩⟩
    all_goals
      go_enter Try.func3, Try.ntmps3
      go_wp2_with (first | (go_at_call 4; refine (HR.out _).mono ?_; rintro e w1 ⟨rfl, hf1⟩; have HZ := Lib.hid (Blk.new w1 23 (rowCells r).toArray); have HF := Lib.hid (hf1.alloc (.cells (rowCells r).toArray 23)); clear hf1) | (go_at_call 6; refine (HFI.out _).mono ?_; rintro e w2 ⟨rfl, hf2⟩; replace HF := Lib.hid (HF.out.trans hf2); replace HZ := Lib.hid (HZ.out.fr0 hf2); obtain ⟨k4, k5⟩ : w2.cell? ⟨w1.heap.size, 4, none⟩ = some (.int .i64 r.2.2.2.1) ∧ w2.cell? ⟨w1.heap.size, 5, none⟩ = some (.int .i64 r.2.2.2.2.1) := ⟨HZ.out.cell 4, HZ.out.cell 5⟩; clear hf2) | (go_at_call 7; refine (HC.out _).mono ?_; rintro e w3 ⟨rfl, hf3⟩; replace HF := Lib.hid (HF.out.trans hf3); replace HZ := Lib.hid (HZ.out.fr0 hf3); clear hf3) | (go_at_call 8; (first | (with_reducible refine (HO0.out _).mono ?_) | (with_reducible refine (HO1.out _).mono ?_) | (with_reducible refine (HOS.out _).mono ?_) | (with_reducible refine (HOC.out _).mono ?_)); rintro e w4 ⟨rfl, hf4⟩; replace HF := Lib.hid (HF.out.trans hf4); replace HZ := Lib.hid (HZ.out.fr0 hf4); have k1 : w4.cell? ⟨w1.heap.size, 1, none⟩ = some (.int .i64 r.2.1) := HZ.out.cell 1; clear hf4) | (go_at_call 5; refine (HAW.out _).mono ?_; rintro e w5 ⟨rfl, hf5⟩; replace HF := Lib.hid (HF.out.trans hf5); clear hf5))
      go_ret
      exact ⟨rfl, HF.out⟩
  · have HNO := Lib.hid (fun V => Row_no n (by omega) V)
    unfold zrow at HNO
    go_enter Try.func3, Try.ntmps3
    go_wp2_with (first | (go_at_call 4; refine (HNO.out _).mono ?_; rintro e w1 ⟨rfl, hf1⟩; have HF1 := Lib.hid hf1; clear hf1) | (go_at_call 5; refine (HAW.out _).mono ?_; rintro e w5 ⟨rfl, hf5⟩))
    go_ret
    exact ⟨rfl, (HF1.out.alloc _).trans hf5⟩
end Go.Proofs.Ytoliidlaahhcpaa
