/- The table of words: each, Row. -/
import Derived.Test.YtoliidlaahhcpaaWrows
import Derived.Test.YtoliidlaahhcpaaWpure
import Derived.LoopTactic
namespace Go.Proofs.Ytoliidlaahhcpaa
open Go Go.RowKit
set_option linter.unusedVariables false

theorem tab_at {n : Nat} (hn : n < 421) : tab[n]? = (tabK (n / 45))[n % 45]? := by
  have := tabK_at
  simp only [List.all_eq_true, decide_eq_true_eq] at this
  exact this n (List.mem_range.2 hn)
theorem len_at {k : Nat} (hk : k < 10) : (tabK k).length = if k < 9 then 45 else 16 := by
  have := tabK_len
  simp only [List.all_eq_true, decide_eq_true_eq] at this
  exact this k (List.mem_range.2 hk)
/-- The cells of a row of a block. -/
theorem row_cells {W : World} {g i : Nat} {l : List WRow} {r : WRow} (hb : Blk W g 23 (cellsW l)) (hr : l[i]? = some r) :
    W.cell? ⟨g, i * 8, none⟩ = some (.string (strOfNums r.1)) ∧ W.cell? ⟨g, i * 8 + 1, none⟩ = some (.int .i64 r.2.1) ∧ W.cell? ⟨g, i * 8 + 2, none⟩ = some (.bool (flag r.2.2.1 1)) ∧ W.cell? ⟨g, i * 8 + 3, none⟩ = some (.bool (flag r.2.2.1 2)) ∧ W.cell? ⟨g, i * 8 + 4, none⟩ = some (.int .i64 r.2.2.2.1) ∧ W.cell? ⟨g, i * 8 + 5, none⟩ = some (.int .i64 r.2.2.2.2.1) ∧ W.cell? ⟨g, i * 8 + 6, none⟩ = some (.int .i64 r.2.2.2.2.2.1) ∧ W.cell? ⟨g, i * 8 + 7, none⟩ = some (.int .i64 r.2.2.2.2.2.2) := by
  refine ⟨?_, ?_, ?_, ?_, ?_, ?_, ?_, ?_⟩
  · exact (hb.cell (i * 8 + 0)).trans ((congrArg (fun q => (cellsW l)[q]?) (show i * 8 + 0 = 8 * i + 0 by omega)).trans (cellsW_at l i 0 r hr (by omega)))
  · exact (hb.cell (i * 8 + 1)).trans ((congrArg (fun q => (cellsW l)[q]?) (show i * 8 + 1 = 8 * i + 1 by omega)).trans (cellsW_at l i 1 r hr (by omega)))
  · exact (hb.cell (i * 8 + 2)).trans ((congrArg (fun q => (cellsW l)[q]?) (show i * 8 + 2 = 8 * i + 2 by omega)).trans (cellsW_at l i 2 r hr (by omega)))
  · exact (hb.cell (i * 8 + 3)).trans ((congrArg (fun q => (cellsW l)[q]?) (show i * 8 + 3 = 8 * i + 3 by omega)).trans (cellsW_at l i 3 r hr (by omega)))
  · exact (hb.cell (i * 8 + 4)).trans ((congrArg (fun q => (cellsW l)[q]?) (show i * 8 + 4 = 8 * i + 4 by omega)).trans (cellsW_at l i 4 r hr (by omega)))
  · exact (hb.cell (i * 8 + 5)).trans ((congrArg (fun q => (cellsW l)[q]?) (show i * 8 + 5 = 8 * i + 5 by omega)).trans (cellsW_at l i 5 r hr (by omega)))
  · exact (hb.cell (i * 8 + 6)).trans ((congrArg (fun q => (cellsW l)[q]?) (show i * 8 + 6 = 8 * i + 6 by omega)).trans (cellsW_at l i 6 r hr (by omega)))
  · exact (hb.cell (i * 8 + 7)).trans ((congrArg (fun q => (cellsW l)[q]?) (show i * 8 + 7 = 8 * i + 7 by omega)).trans (cellsW_at l i 7 r hr (by omega)))

set_option maxRecDepth 100000 in
set_option maxHeartbeats 8000000 in
theorem each_any (f : FuncId) (caps : Array Value) (S : Nat → Prop) (I : Nat → World → Prop) (w : World) (hcf : ∀ (W : World) (args : Array Value), (callFunc f args).run Try.prog W = .ok (Next.enter f args) W) (h0 : I 0 w) (hS : ∀ k, S k → k < w.heap.size)
    (hI : ∀ n W W', I n W → Fr0 W W' → I n W')
    (hst : ∀ n r W, tab[n]? = some r → I n W → Calls Try.prog f (#[.int .i64 ((n : Int) + 1), rowV r] ++ caps) W fun e W' => e = .returned (.tuple #[]) ∧ I (n + 1) W' ∧ Fr S W W') :
    Calls Try.prog 12 #[.func (.func f) #[] caps] w fun e w' => e = .returned (.tuple #[]) ∧ I 421 w' ∧ Fr S w w' := by
  have HS := Lib.hid hS
  have HI := Lib.hid hI
  have HST := Lib.hid hst
  have H0 := Lib.hid h0
  clear hS hI hst h0
  go_enter Try.func12, Try.ntmps12
  go_wp2_with fail
  go_loopw [2] (fun i wr => ∃ k : Nat, k ≤ 10 ∧ i = .int .i64 (45 * k : Nat) ∧ I (if k < 10 then 45 * k else 421) wr ∧ Fr S w wr) (fun i _ => 450 - (intOf i).toNat)
  case atStart => exact ⟨0, by omega, rfl, H0.out, Fr.refl _ _⟩
  case round =>
    obtain ⟨k, hk, rfl, hi, hfr⟩ := hrel
    by_cases hk10 : k < 10
    · have hkI : ((45 * k : Nat) : Int) < 421 := by omega
      rw [if_pos hk10] at hi
      have hln := len_at hk10
      have HRW := Lib.hid (fun W => rows_any (45 * k) k hk10 (by omega) W)
      obtain ⟨L, hL⟩ : ∃ L, tabK k = L := ⟨_, rfl⟩
      have HTL := Lib.hid (fun j (hj : j < L.length) => show tab[45 * k + j]? = L[j]? by
        rw [← hL] at hj ⊢
        rw [hln] at hj
        rw [tab_at (by split at hj <;> omega), show (45 * k + j) / 45 = k by split at hj <;> omega, show (45 * k + j) % 45 = j by split at hj <;> omega])
      rw [hL] at HRW hln
      have HLN := Lib.hid hln
      have HI0 := Lib.hid hi
      have HFR := Lib.hid hfr
      obtain ⟨len, hlen⟩ : ∃ len, L.length = len := ⟨_, rfl⟩
      rw [hlen] at HRW HTL
      have hlb : len ≤ 45 := by rw [← hlen, hln]; split <;> omega
      have HLEN := Lib.hid hlen
      clear hln hi hfr hL hlen
      obtain ⟨b, hb⟩ : ∃ b, 45 * k = b := ⟨_, rfl⟩
      rw [hb] at HRW HTL HI0 hkI ⊢
      have HBB := Lib.hid hb
      clear hb
      go_wp2_with (go_at_call 9; refine (HRW.out _).mono ?_; rintro e w1 ⟨g, rfl, hg, hbk, hf1⟩; have HBK := Lib.hid hbk; have HF1 := Lib.hid hf1; have HI1 := Lib.hid (HI.out _ _ _ HI0.out hf1); have HG := Lib.hid hg; clear hbk hf1 hg)
      go_loopw [12] (fun i wr => ∃ j : Nat, j ≤ len ∧ i = .int .i64 j ∧ I (b + j) wr ∧ Fr S w wr ∧ Blk wr g 23 (cellsW L)) (fun i _ => len - (intOf i).toNat)
      case atStart => exact ⟨0, by omega, rfl, HI1.out, HFR.out.trans HF1.out.of0, HBK.out⟩
      case round =>
        obtain ⟨j, hj, rfl, hi, hfr, hbk⟩ := hrel
        by_cases hjl : j < len
        · have hjI : (j : Int) < (len : Int) := by omega
          obtain ⟨r, hr⟩ : ∃ r, L[j]? = some r := ⟨_, List.getElem?_eq_getElem (by rw [HLEN.out]; exact hjl)⟩
          have htr := (HTL.out j hjl).trans hr
          obtain ⟨c0, c1, c2, c3, c4, c5, c6, c7⟩ := row_cells hbk hr
          have HSTJ := Lib.hid (fun W (hW : Fr0 wr W) => HST.out (b + j) r W htr (HI.out _ _ _ hi hW))
          have x1 : IntKind.i64.wrap ((b : Int) + (j : Int)) = (b : Int) + (j : Int) := IntWalk.i64_in _ (by omega)
          have x2 : IntKind.i64.wrap ((b : Int) + (j : Int) + 1) = (b : Int) + (j : Int) + 1 := IntWalk.i64_in _ (by omega)
          have HI2 := Lib.hid hi
          have HFR2 := Lib.hid hfr
          have HBK2 := Lib.hid hbk
          clear hi hfr hbk hr htr
          have hrv : rowV r = .agg #[.string (strOfNums r.1), .int .i64 r.2.1, .bool (flag r.2.2.1 1), .bool (flag r.2.2.1 2), .int .i64 r.2.2.2.1, .int .i64 r.2.2.2.2.1, .int .i64 r.2.2.2.2.2.1, .int .i64 r.2.2.2.2.2.2] := rfl
          rw [hrv, show ((b + j : Nat) : Int) + 1 = (b : Int) + (j : Int) + 1 by omega] at HSTJ
          clear hrv
          go_wp2_with (refine (HSTJ.out _ ((Fr.refl _ _).alloc _)).mono ?_; rintro e w3 ⟨rfl, hi3, hf3⟩; have HI3 := Lib.hid hi3; have HF3 := Lib.hid (((Fr.refl S wr).alloc _).trans hf3); clear hi3 hf3)
          have h3 := HI3.out
          rw [show b + j + 1 = b + (j + 1) by omega] at h3
          exact ⟨⟨j + 1, by omega, by push_cast; rfl, h3, HFR2.out.trans HF3.out, HBK2.out.fr HF3.out (fun e => by have h1 := HS.out _ e; have h2 := HG.out; have h4 := HFR.out.size; omega)⟩, by simp [intOf]; omega⟩
        · obtain rfl : j = len := by omega
          have HI2 := Lib.hid hi
          have HFR2 := Lib.hid hfr
          clear hi hfr hbk
          go_wp2_with fail
          have hl : j = if k < 9 then 45 else 16 := HLEN.out.symm.trans HLN.out
          have hb := HBB.out
          refine ⟨⟨k + 1, by omega, ?_, ?_, HFR2.out⟩, by simp [intOf]; omega⟩
          · congr 1
            omega
          · have h2 := HI2.out
            by_cases hk9 : k < 9
            · rw [if_pos hk9] at hl
              rw [if_pos (by omega), show 45 * (k + 1) = b + j by omega]
              exact h2
            · rw [if_neg hk9] at hl
              rw [if_neg (by omega), show 421 = b + j by omega]
              exact h2
    · obtain rfl : k = 10 := by omega
      have HI2 := Lib.hid hi
      have HFR2 := Lib.hid hfr
      clear hi hfr
      go_wp2_with fail
      go_end0
      exact ⟨rfl, HI2.out, HFR2.out⟩

set_option maxRecDepth 100000 in
set_option maxHeartbeats 4000000 in
theorem Row_any (n : Nat) (r : WRow) (hr : tab[n]? = some r) (w : World) : Calls Try.prog 4 #[.int .i64 ((n : Int) + 1)] w fun e w' => e = .returned (.tuple #[rowV r, .bool true]) ∧ Fr0 w w' := by
  have hn : n < 421 := by
    have := (List.getElem?_eq_some_iff.1 hr).1
    rw [tab_len] at this
    exact this
  have hr2 := (tab_at hn).symm.trans hr
  have HRW := Lib.hid (fun W => rows_any n (n / 45) (by omega) rfl W)
  have hln := len_at (show n / 45 < 10 by omega)
  have hil := (List.getElem?_eq_some_iff.1 hr2).1
  obtain ⟨k, hk⟩ : ∃ k, n / 45 = k := ⟨_, rfl⟩
  obtain ⟨j, hj⟩ : ∃ j, n % 45 = j := ⟨_, rfl⟩
  have hjr : IntKind.i64.wrap (Int.tmod (n : Int) 45) = (j : Int) := by
    rw [Int.tmod_eq_emod_of_nonneg (by omega), IntWalk.i64_in _ (by omega)]
    omega
  have x1 : IntKind.i64.wrap ((n : Int) + 1 - 1) = (n : Int) := by rw [IntWalk.i64_in _ (by omega)]; omega
  rw [hk] at HRW hr2 hln hil
  rw [hj] at hr2 hil
  obtain ⟨L, hL⟩ : ∃ L, tabK k = L := ⟨_, rfl⟩
  rw [hL] at HRW hr2 hln hil
  obtain ⟨len, hlen⟩ : ∃ len, L.length = len := ⟨_, rfl⟩
  rw [hlen] at HRW hil
  have hilI : (j : Int) < (len : Int) := by omega
  have hl45 : len ≤ 45 := by rw [← hlen, hln]; split <;> omega
  clear hln hlen hL
  have HZ0 := Lib.hid (Blk.new w 23 #[.string ⟨#[]⟩, .int .i64 0, .bool false, .bool false, .int .i64 0, .int .i64 0, .int .i64 0, .int .i64 0])
  have HF0 := Lib.hid ((Fr.refl (fun _ => False) w).alloc (.cells #[.string ⟨#[]⟩, .int .i64 0, .bool false, .bool false, .int .i64 0, .int .i64 0, .int .i64 0, .int .i64 0] 23))
  go_enter Try.func4, Try.ntmps4
  go_wp2_with (go_at_call 9; refine (HRW.out _).mono ?_; rintro e w1 ⟨g, rfl, hg, hbk, hf1⟩; obtain ⟨c0, c1, c2, c3, c4, c5, c6, c7⟩ := row_cells hbk hr2; have hz := HZ0.out.fr0 hf1; have z0 := hz.cell 0; have z1 := hz.cell 1; have z2 := hz.cell 2; have z3 := hz.cell 3; have z4 := hz.cell 4; have z5 := hz.cell 5; have z6 := hz.cell 6; have z7 := hz.cell 7; simp at z0 z1 z2 z3 z4 z5 z6 z7; have y0 := hz.frozen 0; have y1 := hz.frozen 1; have y2 := hz.frozen 2; have y3 := hz.frozen 3; have y4 := hz.frozen 4; have y5 := hz.frozen 5; have y6 := hz.frozen 6; have y7 := hz.frozen 7; have HZ := Lib.hid hz; have HF := Lib.hid (HF0.out.trans hf1); clear hz hf1 hbk hg)
  have hz := HZ.out
  have hF := HF.out
  obtain ⟨W, hW⟩ : ∃ W, ((((((((w1.setCell ⟨w.heap.size, 0, none⟩ (.string (strOfNums r.1))).setCell ⟨w.heap.size, 1, none⟩ (.int .i64 r.2.1)).setCell ⟨w.heap.size, 2, none⟩ (.bool (flag r.2.2.1 1))).setCell ⟨w.heap.size, 3, none⟩ (.bool (flag r.2.2.1 2))).setCell ⟨w.heap.size, 4, none⟩ (.int .i64 r.2.2.2.1)).setCell ⟨w.heap.size, 5, none⟩ (.int .i64 r.2.2.2.2.1)).setCell ⟨w.heap.size, 6, none⟩ (.int .i64 r.2.2.2.2.2.1)).setCell ⟨w.heap.size, 7, none⟩ (.int .i64 r.2.2.2.2.2.2)) = W := ⟨_, rfl⟩
  have hR := ((((((((hz.set_ 0 (.string (strOfNums r.1))).set_ 1 (.int .i64 r.2.1)).set_ 2 (.bool (flag r.2.2.1 1))).set_ 3 (.bool (flag r.2.2.1 2))).set_ 4 (.int .i64 r.2.2.2.1)).set_ 5 (.int .i64 r.2.2.2.2.1)).set_ 6 (.int .i64 r.2.2.2.2.2.1)).set_ 7 (.int .i64 r.2.2.2.2.2.2))
  have hFW := ((((((((hF.setCell (p := ⟨w.heap.size, 0, none⟩) (.inr (Nat.le_refl _)) (.string (strOfNums r.1))).setCell (p := ⟨w.heap.size, 1, none⟩) (.inr (Nat.le_refl _)) (.int .i64 r.2.1)).setCell (p := ⟨w.heap.size, 2, none⟩) (.inr (Nat.le_refl _)) (.bool (flag r.2.2.1 1))).setCell (p := ⟨w.heap.size, 3, none⟩) (.inr (Nat.le_refl _)) (.bool (flag r.2.2.1 2))).setCell (p := ⟨w.heap.size, 4, none⟩) (.inr (Nat.le_refl _)) (.int .i64 r.2.2.2.1)).setCell (p := ⟨w.heap.size, 5, none⟩) (.inr (Nat.le_refl _)) (.int .i64 r.2.2.2.2.1)).setCell (p := ⟨w.heap.size, 6, none⟩) (.inr (Nat.le_refl _)) (.int .i64 r.2.2.2.2.2.1)).setCell (p := ⟨w.heap.size, 7, none⟩) (.inr (Nat.le_refl _)) (.int .i64 r.2.2.2.2.2.2))
  rw [hW] at hR hFW ⊢
  simp only [List.setIfInBounds_toArray, List.set_cons_zero, List.set_cons_succ] at hR
  obtain ⟨r0, r1, r2, r3, r4, r5, r6, r7⟩ : W.cell? ⟨w.heap.size, 0, none⟩ = some (.string (strOfNums r.1)) ∧ W.cell? ⟨w.heap.size, 1, none⟩ = some (.int .i64 r.2.1) ∧ W.cell? ⟨w.heap.size, 2, none⟩ = some (.bool (flag r.2.2.1 1)) ∧ W.cell? ⟨w.heap.size, 3, none⟩ = some (.bool (flag r.2.2.1 2)) ∧ W.cell? ⟨w.heap.size, 4, none⟩ = some (.int .i64 r.2.2.2.1) ∧ W.cell? ⟨w.heap.size, 5, none⟩ = some (.int .i64 r.2.2.2.2.1) ∧ W.cell? ⟨w.heap.size, 6, none⟩ = some (.int .i64 r.2.2.2.2.2.1) ∧ W.cell? ⟨w.heap.size, 7, none⟩ = some (.int .i64 r.2.2.2.2.2.2) := ⟨hR.cell 0, hR.cell 1, hR.cell 2, hR.cell 3, hR.cell 4, hR.cell 5, hR.cell 6, hR.cell 7⟩
  clear hR hW z0 z1 z2 z3 z4 z5 z6 z7 y0 y1 y2 y3 y4 y5 y6 y7
  exact bodyPost_ret (v := .tuple #[rowV r, .bool true]) (by simp [results, Try.results4, go_sem, r0, r1, r2, r3, r4, r5, r6, r7, rowV, rowCells]) rfl ⟨rfl, hFW⟩
end Go.Proofs.Ytoliidlaahhcpaa
