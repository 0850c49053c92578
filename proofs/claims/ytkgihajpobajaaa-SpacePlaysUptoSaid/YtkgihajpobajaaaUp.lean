/- The program's data space: Up, Down. -/
import Derived.Test.YtkgihajpobajaaaMove
namespace Go.Proofs.Ytkgihajpobajaaa
open Go Go.RowKit

/-- One byte is copied. -/
def cpy (fo to : Nat) (c : List Int) (i : Nat) : List Int := c.set (to + i) (c.getD (fo + i) 0)
/-- Bytes are copied one by one, in the order of a list of places. -/
def cpys (fo to : Nat) (c : List Int) (l : List Nat) : List Int := l.foldl (cpy fo to) c
theorem cpys_snoc (fo to : Nat) (c : List Int) (l : List Nat) (i : Nat) : cpys fo to c (l ++ [i]) = cpy fo to (cpys fo to c l) i := by simp [cpys]
theorem cpy_length (fo to : Nat) (c : List Int) (i : Nat) : (cpy fo to c i).length = c.length := by simp [cpy]
theorem cpys_length (fo to : Nat) (c : List Int) (l : List Nat) : (cpys fo to c l).length = c.length := by
  induction l generalizing c with
  | nil => rfl
  | cons i l ih => exact (ih _).trans (cpy_length _ _ _ _)
theorem cpy_bytes {c : List Int} (h : Bytes c) (fo to i : Nat) : Bytes (cpy fo to c i) := by
  refine h.set _ _ ?_
  rw [List.getD_eq_getElem?_getD]
  cases hx : c[fo + i]? with
  | none => simp
  | some x => exact h x (List.mem_of_getElem? hx)
theorem cpys_bytes {c : List Int} (h : Bytes c) (fo to : Nat) (l : List Nat) : Bytes (cpys fo to c l) := by
  induction l generalizing c with
  | nil => exact h
  | cons i l ih => exact ih (cpy_bytes h _ _ _)

section
variable {p g : Nat} {bs : List Int} {dict here : Int}
/-- The row behind Up; behind Down. -/
def upB (bs : List Int) (f t n : Int) : List Int := if bothT bs.length f t n = 0 then cpys (f - 65536).toNat (t - 65536).toNat bs (List.range n.toNat) else bs
def dnB (bs : List Int) (f t n : Int) : List Int := if bothT bs.length f t n = 0 then cpys (f - 65536).toNat (t - 65536).toNat bs ((List.range n.toNat).map fun i => n.toNat - 1 - i) else bs

theorem Sp.row_ {w w' : World} (h : Sp w p g bs dict here) (hf : Fr1 g w w') (cs : List Int) (hl : cs.length = bs.length) (hb : Bytes cs) (hr : Blk w' g 5 (cells8 cs)) : Sp w' p g cs dict here :=
  ⟨by rw [hl]; exact h.obj.fr hf h.ne, hr, hb, by rw [hl]; exact h.len⟩

set_option maxRecDepth 100000 in
set_option maxHeartbeats 2000000 in
theorem Up_any (f t n : Int) (w : World) (h : Sp w p g bs dict here) (hf : i64 f) (ht : i64 t) (hn : i64 n) :
    Calls Try.prog 22 #[.pointer (some ⟨p, 0, none⟩), .int .i64 f, .int .i64 t, .int .i64 n] w fun e w' => e = .returned (.int .i64 (bothT bs.length f t n)) ∧ Fr1 g w w' ∧ Sp w' p g (upB bs f t n) dict here := by
  have hB := both_any f t n w h hf ht hn
  unfold upB
  by_cases h0 : bothT bs.length f t n = 0 ∧ 1 ≤ n
  · obtain ⟨h0, h1⟩ := h0
    obtain ⟨k1, k2, k3, k4, k5, k6⟩ := bothT_zero h0 h1
    obtain ⟨e1, e2⟩ := both_in (g := g) h0 h1
    rw [e1, e2, h0] at hB
    rw [if_pos h0, h0]
    have b1 : (f - 65536).toNat + n.toNat ≤ bs.length := by omega
    have b2 : (t - 65536).toNat + n.toNat ≤ bs.length := by omega
    have hl := h.len
    clear e1 e2 h0 k1 k2 k3 k4 k5 k6 h1 hf ht hn
    generalize (f - 65536).toNat = fo at *
    generalize (t - 65536).toNat = to at *
    obtain ⟨m, hm⟩ : ∃ m, n.toNat = m := ⟨_, rfl⟩
    rw [hm] at hB b1 b2 ⊢
    clear hm
    have HB := Lib.hid hB
    clear hB
    go_enter Try.func22, Try.ntmps22
    go_wp2_with (go_at_call 37; refine HB.out.mono ?_; rintro e w1 ⟨rfl, hw1⟩)
    go_loopw [24] (fun i wr => ∃ k : Nat, k ≤ m ∧ i = .int .i64 k ∧ Fr1 g w wr ∧ Blk wr g 5 (cells8 (cpys fo to bs (List.range k)))) (fun i _ => m - (intOf i).toNat)
    case atStart => exact ⟨0, by omega, rfl, hw1.of0, h.row.fr0 hw1⟩
    case round =>
      obtain ⟨k, hk, rfl, hfr, hb⟩ := hrel
      by_cases hlt : k < m
      · have hll : (cpys fo to bs (List.range k)).length = bs.length := cpys_length _ _ _ _
        have hc := hb.cell (fo + k)
        rw [cells8_at, List.getElem?_eq_getElem (by omega)] at hc
        simp only [Option.map_some] at hc
        have hc2 := hb.cell (to + k)
        rw [cells8_at, List.getElem?_eq_getElem (by omega)] at hc2
        simp only [Option.map_some] at hc2
        have hz2 := hb.frozen (to + k)
        obtain ⟨x, hx⟩ : ∃ x, (cpys fo to bs (List.range k))[fo + k] = x := ⟨_, rfl⟩
        obtain ⟨y, hy⟩ : ∃ y, (cpys fo to bs (List.range k))[to + k] = y := ⟨_, rfl⟩
        rw [hx] at hc
        rw [hy] at hc2
        have HX : Hid (cpys fo to bs (List.range (k + 1)) = (cpys fo to bs (List.range k)).set (to + k) x) := by
          show _ = _
          rw [List.range_succ, cpys_snoc, cpy, List.getD_eq_getElem?_getD, List.getElem?_eq_getElem (by omega), Option.getD_some, hx]
        clear hx hy hll
        go_wp2
        go_roundw
        case rel =>
          refine ⟨k + 1, by omega, by go_num, hfr.setCell (.inl rfl) _, ?_⟩
          rw [HX.out, ← cells8_set]
          exact hb.set_ _ _
        case measure => simp [intOf]; omega
      · obtain rfl : k = m := by omega
        go_wp2
        go_ret
        exact ⟨rfl, hfr, h.row_ hfr _ (cpys_length _ _ _ _) (cpys_bytes h.byt _ _ _) hb⟩
  · obtain ⟨⟨A, m, c, e1⟩, e2⟩ := both_out (g := g) h0
    rw [e1, e2] at hB
    have er : (if bothT bs.length f t n = 0 then cpys (f - 65536).toNat (t - 65536).toNat bs (List.range n.toNat) else bs) = bs := by
      split
      · rename_i h1
        rw [show n.toNat = 0 by omega]; rfl
      · rfl
    rw [er]
    clear er e1 e2 h0
    generalize bothT bs.length f t n = T at *
    have HB := Lib.hid hB
    clear hB
    go_enter Try.func22, Try.ntmps22
    go_wp2_with (go_at_call 37; refine HB.out.mono ?_; rintro e w1 ⟨rfl, hw1⟩)
    refine wp_loop_rounds 1 ?_
    rw [rounds_succ]
    go_wp2
    go_ret
    exact ⟨rfl, hw1.of0, h.fr0 hw1⟩

set_option maxRecDepth 100000 in
set_option maxHeartbeats 2000000 in
theorem Down_any (f t n : Int) (w : World) (h : Sp w p g bs dict here) (hf : i64 f) (ht : i64 t) (hn : i64 n) :
    Calls Try.prog 23 #[.pointer (some ⟨p, 0, none⟩), .int .i64 f, .int .i64 t, .int .i64 n] w fun e w' => e = .returned (.int .i64 (bothT bs.length f t n)) ∧ Fr1 g w w' ∧ Sp w' p g (dnB bs f t n) dict here := by
  have hB := both_any f t n w h hf ht hn
  unfold dnB
  by_cases h0 : bothT bs.length f t n = 0 ∧ 1 ≤ n
  · obtain ⟨h0, h1⟩ := h0
    obtain ⟨k1, k2, k3, k4, k5, k6⟩ := bothT_zero h0 h1
    obtain ⟨e1, e2⟩ := both_in (g := g) h0 h1
    rw [e1, e2, h0] at hB
    rw [if_pos h0, h0]
    have b1 : (f - 65536).toNat + n.toNat ≤ bs.length := by omega
    have b2 : (t - 65536).toNat + n.toNat ≤ bs.length := by omega
    have hl := h.len
    clear e1 e2 h0 k1 k2 k3 k4 k5 k6 h1 hf ht hn
    generalize (f - 65536).toNat = fo at *
    generalize (t - 65536).toNat = to at *
    obtain ⟨m, hm⟩ : ∃ m, n.toNat = m := ⟨_, rfl⟩
    rw [hm] at hB b1 b2 ⊢
    clear hm
    have HB := Lib.hid hB
    clear hB
    go_enter Try.func23, Try.ntmps23
    go_wp2_with (go_at_call 37; refine HB.out.mono ?_; rintro e w1 ⟨rfl, hw1⟩)
    go_loopw [12] (fun i wr => ∃ k : Nat, k ≤ m ∧ i = .int .i64 ((m : Int) - 1 - k) ∧ Fr1 g w wr ∧ Blk wr g 5 (cells8 (cpys fo to bs ((List.range k).map fun i => m - 1 - i)))) (fun i _ => (intOf i + 1).toNat)
    case atStart => exact ⟨0, by omega, by simp, hw1.of0, h.row.fr0 hw1⟩
    case round =>
      obtain ⟨k, hk, rfl, hfr, hb⟩ := hrel
      by_cases hlt : k < m
      · obtain ⟨j, hj⟩ : ∃ j : Nat, m = k + 1 + j := ⟨m - 1 - k, by omega⟩
        have hll : (cpys fo to bs ((List.range k).map fun i => m - 1 - i)).length = bs.length := cpys_length _ _ _ _
        have hc := hb.cell (fo + j)
        rw [cells8_at, List.getElem?_eq_getElem (by omega)] at hc
        simp only [Option.map_some] at hc
        have hc2 := hb.cell (to + j)
        rw [cells8_at, List.getElem?_eq_getElem (by omega)] at hc2
        simp only [Option.map_some] at hc2
        have hz2 := hb.frozen (to + j)
        obtain ⟨x, hx⟩ : ∃ x, (cpys fo to bs ((List.range k).map fun i => m - 1 - i))[fo + j] = x := ⟨_, rfl⟩
        obtain ⟨y, hy⟩ : ∃ y, (cpys fo to bs ((List.range k).map fun i => m - 1 - i))[to + j] = y := ⟨_, rfl⟩
        rw [hx] at hc
        rw [hy] at hc2
        have HX : Hid (cpys fo to bs ((List.range (k + 1)).map fun i => m - 1 - i) = (cpys fo to bs ((List.range k).map fun i => m - 1 - i)).set (to + j) x) := by
          show _ = _
          rw [List.range_succ, List.map_append, List.map_cons, List.map_nil, cpys_snoc, show m - 1 - k = j by omega, cpy, List.getD_eq_getElem?_getD, List.getElem?_eq_getElem (by omega), Option.getD_some, hx]
        rw [show ((m : Int) - 1 - k) = (j : Int) by omega]
        have HJ := Lib.hid hj
        have jlt : j < m := by omega
        clear hx hy hll hj
        go_wp2
        go_roundw
        case rel =>
          refine ⟨k + 1, by omega, by have := HJ.out; congr 1 <;> omega, hfr.setCell (.inl rfl) _, ?_⟩
          rw [HX.out, ← cells8_set]
          exact hb.set_ _ _
        case measure => simp [intOf]
      · obtain rfl : k = m := by omega
        rw [show ((k : Int) - 1 - k) = -1 by omega]
        go_wp2
        go_ret
        exact ⟨rfl, hfr, h.row_ hfr _ (cpys_length _ _ _ _) (cpys_bytes h.byt _ _ _) hb⟩
  · obtain ⟨⟨A, m, c, e1⟩, e2⟩ := both_out (g := g) h0
    rw [e1, e2] at hB
    have er : (if bothT bs.length f t n = 0 then cpys (f - 65536).toNat (t - 65536).toNat bs ((List.range n.toNat).map fun i => n.toNat - 1 - i) else bs) = bs := by
      split
      · rename_i h1
        rw [show n.toNat = 0 by omega]; rfl
      · rfl
    rw [er]
    clear er e1 e2 h0
    generalize bothT bs.length f t n = T at *
    have HB := Lib.hid hB
    clear hB
    go_enter Try.func23, Try.ntmps23
    go_wp2_with (go_at_call 37; refine HB.out.mono ?_; rintro e w1 ⟨rfl, hw1⟩)
    refine wp_loop_rounds 1 ?_
    rw [rounds_succ]
    go_wp2
    go_ret
    exact ⟨rfl, hw1.of0, h.fr0 hw1⟩
end

end Go.Proofs.Ytkgihajpobajaaa
