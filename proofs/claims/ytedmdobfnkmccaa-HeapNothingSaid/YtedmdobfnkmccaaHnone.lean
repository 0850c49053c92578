/- The walk of HeapNothing: a heap that is none, a heap with nothing in it. -/
import Derived.Test.YtedmdobfnkmccaaHlaw
namespace Go.Proofs.Ytedmdobfnkmccaa
open Go Go.RowKit

/-- A heap that is none, or has nothing in it. -/
def NoHeap (w : World) (v : Value) : Prop := v = nil_ ∨ ∃ g, v = ptr g ∧ Blk w g 46 #[nil_, .map none]

theorem run_lookup_none {w : World} {T K V : TypeId} {z : Value} (hT : Try.prog.underlying T = some (.map K V)) (hK : Try.prog.underlying K = some (.int .i64)) (hz : ∀ W : World, (zeroValue V).run Try.prog W = .ok z W) (k : Int) :
    (Instr.lookup T (.map none) (.int .i64 k) false).run Try.prog w = .ok z w := by
  have hf : (Instr.findKey K (.int .i64 k) []).run Try.prog w = .ok none w := run_findKey_none hK (fun e he => by cases he)
  simp [Instr.lookup, run_underlying hT, run_checkKey_int _ hK, hf, hz]

set_option maxHeartbeats 1000000 in
theorem none_alloc (w : World) (v : Value) (n : Int) (h : NoHeap w v) :
    Calls Try.prog 14 #[v, .int .i64 n] w fun e w' => e = .returned (.tuple #[.int .i64 0, .int .i64 (-59)]) ∧ w' = w := by
  by_cases hn : n < 0 ∨ 1048576 < n
  · rcases h with rfl | ⟨g, rfl, _⟩
    · exact Allocate_bad (hp := 0) n w hn _ (.inl rfl)
    · exact Allocate_bad (hp := g) n w hn _ (.inr rfl)
  · have hR := rounded_ok n w (by omega) (by omega)
    clear hn
    generalize rnd n = z at *
    rcases h with rfl | ⟨g, rfl, hb⟩
    · simp only [nil_]
      go_enter Try.func14, Try.ntmps14
      go_wp2_with (go_at_call 22; refine hR.mono ?_; rintro e w ⟨rfl, rfl⟩)
      go_ret2
      exact ⟨rfl, rfl⟩
    · have c0 := hb.cell 0
      clear hb
      simp only [nil_, ptr] at *
      go_enter Try.func14, Try.ntmps14
      go_wp2_with (go_at_call 22; refine hR.mono ?_; rintro e w ⟨rfl, rfl⟩)
      refine wp_loop_rounds 1 ?_
      rw [rounds_succ]
      go_wp2
      go_ret2
      exact ⟨rfl, rfl⟩

set_option maxHeartbeats 1000000 in
theorem none_taken (w : World) (v : Value) (a : Int) (h : NoHeap w v) :
    Calls Try.prog 24 #[v, .int .i64 a] w fun e w' => e = .returned nil_ ∧ w' = w := by
  rcases h with rfl | ⟨g, rfl, hb⟩
  · simp only [nil_]
    go_enter Try.func24, Try.ntmps24
    go_wp2
    go_ret
    exact ⟨rfl, rfl⟩
  · have c1 := hb.cell 1
    have hl := fun (W : World) (k : Int) => run_lookup_none (w := W) (V := 43) Try.underlying44 Try.underlying3 (z := nil_) (fun W => rfl) k
    clear hb
    simp only [nil_, ptr] at *
    go_enter Try.func24, Try.ntmps24
    go_wp2
    go_ret
    exact ⟨rfl, rfl⟩

set_option maxHeartbeats 1000000 in
theorem none_free (w : World) (v : Value) (a : Int) (h : NoHeap w v) :
    Calls Try.prog 16 #[v, .int .i64 a] w fun e w' => e = .returned (.int .i64 (-60)) ∧ w' = w := by
  have hT := none_taken w v a h
  clear h
  simp only [nil_] at hT
  go_enter Try.func16, Try.ntmps16
  go_wp2_with (go_at_call 24; refine hT.mono ?_; rintro e w ⟨rfl, rfl⟩)
  go_ret
  exact ⟨rfl, rfl⟩

set_option maxHeartbeats 1000000 in
theorem none_resize (w : World) (v : Value) (a n : Int) (h : NoHeap w v) :
    Calls Try.prog 15 #[v, .int .i64 a, .int .i64 n] w fun e w' => e = .returned (.tuple #[.int .i64 a, .int .i64 0, .int .i64 (-61)]) ∧ w' = w := by
  have hT := none_taken w v a h
  have hR : ∃ z b, Calls Try.prog 22 #[.int .i64 n] w fun e w' => e = .returned (.tuple #[.int .i64 z, .bool b]) ∧ w = w' := by
    by_cases hn : n < 0 ∨ 1048576 < n
    · exact ⟨_, _, rounded_err n w hn⟩
    · exact ⟨_, _, rounded_ok n w (by omega) (by omega)⟩
  obtain ⟨z, b, hR⟩ := hR
  clear h
  simp only [nil_] at hT
  go_enter Try.func15, Try.ntmps15
  go_wp2_with (first | (go_at_call 24; refine hT.mono ?_; rintro e w ⟨rfl, rfl⟩) | (go_at_call 22; refine hR.mono ?_; rintro e w ⟨rfl, rfl⟩))
  go_ret3
  exact ⟨rfl, rfl⟩

set_option maxHeartbeats 1000000 in
theorem none_blocks (w : World) (v : Value) (h : NoHeap w v) :
    Calls Try.prog 13 #[v] w fun e w' => e = .returned (.slice none 0 0) ∧ w' = w := by
  rcases h with rfl | ⟨g, rfl, hb⟩
  · simp only [nil_]
    go_enter Try.func13, Try.ntmps13
    go_wp2
    go_ret
    exact ⟨rfl, rfl⟩
  · have c0 := hb.cell 0
    clear hb
    simp only [nil_, ptr] at *
    go_enter Try.func13, Try.ntmps13
    go_wp2
    refine wp_loop_rounds 1 ?_
    rw [rounds_succ]
    go_wp2
    go_ret
    exact ⟨rfl, rfl⟩

set_option maxHeartbeats 4000000 in
theorem nothing_walk (n a : Int) (w : World) (_hn : -9223372036854775808 ≤ n ∧ n ≤ 9223372036854775807) (_ha : -9223372036854775808 ≤ a ∧ a ≤ 9223372036854775807) :
    Calls Try.prog 4 #[.int .i64 n, .int .i64 a] w fun e w' => e = .returned (.bool true) ∧ Fr0 w w' := by
  have HAW := Lib.hid (fun W => awake11 W)
  go_enter Try.func4, Try.ntmps4
  go_wp2
  have hbl : Blk ((w.alloc (.cells #[nil_, .map none] 46)).alloc (.cells #[nil_, ptr w.heap.size] 24)) (w.heap.size + 1) 24 #[nil_, ptr w.heap.size] := by
    have := Blk.new (w.alloc (.cells #[nil_, .map none] 46)) 24 #[nil_, ptr w.heap.size]
    have e : (w.alloc (.cells #[nil_, .map none] 46)).heap.size = w.heap.size + 1 := by simp
    rw [e] at this
    exact this
  have hbh : Blk ((w.alloc (.cells #[nil_, .map none] 46)).alloc (.cells #[nil_, ptr w.heap.size] 24)) w.heap.size 46 #[nil_, .map none] := (Blk.new w _ _).alloc _
  have hfr : Fr0 w ((w.alloc (.cells #[nil_, .map none] 46)).alloc (.cells #[nil_, ptr w.heap.size] 24)) := ((Fr.refl _ w).alloc _).alloc _
  have H1 := Lib.hid hbl
  have H2 := Lib.hid hbh
  have H3 := Lib.hid hfr
  clear hbl hbh hfr
  go_loopw [7] (fun i wr => (i = .int .i64 0 ∨ i = .int .i64 1 ∨ i = .int .i64 2) ∧ Blk wr (w.heap.size + 1) 24 #[nil_, ptr w.heap.size] ∧ Blk wr w.heap.size 46 #[nil_, .map none] ∧ Fr0 w wr) (fun i _ => 2 - (intOf i).toNat)
  case atStart => exact ⟨.inl rfl, H1.out, H2.out, H3.out⟩
  case round =>
    obtain ⟨hi, hb, hh, hf⟩ := hrel
    have c0 := hb.cell 0
    have c1 := hb.cell 1
    have hno : ∀ W : World, Fr0 wr W → NoHeap W nil_ ∧ NoHeap W (ptr w.heap.size) := fun W hW => ⟨.inl rfl, .inr ⟨_, rfl, hh.fr0 hW⟩⟩
    have HN := Lib.hid hno
    have HB := Lib.hid hb
    have HH := Lib.hid hh
    have HF := Lib.hid hf
    clear hb hh hf hno
    simp only [nil_, ptr] at c0 c1 HN
    rcases hi with rfl | rfl | rfl
    · go_wp2_with (first | (go_at_call 14; refine (none_alloc _ _ n (HN.out _ (Fr.refl _ _)).1).mono ?_; rintro e wr' ⟨rfl, rfl⟩) | (go_at_call 15; refine (none_resize _ _ a n (HN.out _ (Fr.refl _ _)).1).mono ?_; rintro e wr' ⟨rfl, rfl⟩) | (go_at_call 16; refine (none_free _ _ a (HN.out _ (Fr.refl _ _)).1).mono ?_; rintro e wr' ⟨rfl, rfl⟩) | (go_at_call 13; refine (none_blocks _ _ (HN.out _ (Fr.refl _ _)).1).mono ?_; rintro e wr' ⟨rfl, rfl⟩))
      exact ⟨⟨.inr (.inl rfl), HB.out, HH.out, HF.out⟩, by simp [intOf]⟩
    · go_wp2_with (first | (go_at_call 14; refine (none_alloc _ _ n (HN.out _ (Fr.refl _ _)).2).mono ?_; rintro e wr' ⟨rfl, rfl⟩) | (go_at_call 15; refine (none_resize _ _ a n (HN.out _ (Fr.refl _ _)).2).mono ?_; rintro e wr' ⟨rfl, rfl⟩) | (go_at_call 16; refine (none_free _ _ a (HN.out _ (Fr.refl _ _)).2).mono ?_; rintro e wr' ⟨rfl, rfl⟩) | (go_at_call 13; refine (none_blocks _ _ (HN.out _ (Fr.refl _ _)).2).mono ?_; rintro e wr' ⟨rfl, rfl⟩))
      exact ⟨⟨.inr (.inr rfl), HB.out, HH.out, HF.out⟩, by simp [intOf]⟩
    · go_wp2_with (go_at_call 8; refine (HAW.out _).mono ?_; rintro e w1 ⟨rfl, hf1⟩)
      go_ret
      exact ⟨rfl, HF.out.trans hf1⟩
end Go.Proofs.Ytedmdobfnkmccaa
