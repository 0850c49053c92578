/- The program's data space that is none, or a zero one: get. -/
import Derived.Test.YtkgihajpobajaaaNone2
namespace Go.Proofs.Ytkgihajpobajaaa
open Go Go.RowKit Go.Shelf
attribute [local go_sem] Oper.semAt_some

theorem noBytes : Bytes [] := fun x hx => by cases hx

set_option maxRecDepth 100000 in
set_option maxHeartbeats 2000000 in
theorem get_nil (a n : Int) (w : World) (h : NoSp w (.pointer none)) (ha : i64 a) (hn : 1 ≤ n) (hn' : n ≤ 8) :
    Calls Try.prog 31 #[.pointer none, .int .i64 a, .int .i64 n] w fun e w' => e = .returned (.tuple #[.int .i64 0, .int .i64 (-9)]) ∧ Fr0 w w' := by
  refine (callsIn_wide (n := 4)).1 ?_
  refine callsIn_of_wp_marks Try.func31 rfl trivial ?_ rfl
  simp only [Try.ntmps31, List.size_toArray, List.length_cons, List.length_nil, Nat.reduceAdd, Nat.reduceSub, Array.replicate_succ, Array.replicate_zero, List.push_toArray, List.append_toArray, List.nil_append, List.cons_append]
  have hr : i64 n := ⟨by omega, by omega⟩
  have hT : noT n = -9 := by unfold noT; rw [if_neg (by omega)]
  have HT := Lib.hid hT
  clear hT
  gi_wp2_with (first | (refine ⟨trivial, ?_⟩; gi_at_call 38; refine (callsIn_wide.2 (aligned_any n _)).mono ?_; rintro e w' ⟨rfl, rfl⟩) | (refine ⟨trivial, ?_⟩; gi_at_call 33; refine (callsIn_wide.2 (reach_none a n _ _ _ ((h.alloc _).alloc _) ha hr)).mono ?_; rw [HT.out]; rintro e w' ⟨rfl, rfl⟩) | (refine ⟨trivial, ?_⟩; gi_at_call 42; refine (callsIn_wide.2 (back_any _ _ none 0 0 rfl)).mono ?_; rintro e w' ⟨rfl, rfl⟩))
  obtain ⟨W0, hW0⟩ : ∃ W0, ((((w.alloc (.cells #[.int .i64 n] 3)).alloc (.cells #[.func (.func 44) #[] #[.pointer (some ⟨w.heap.size, 0, none⟩)]] 63)).alloc (.cells #[.int .u64 0] 30)).alloc (.cells #[Value.slice none 0 0] 32)) = W0 := ⟨_, rfl⟩
  rw [hW0]
  have hsz : W0.heap.size = w.heap.size + 4 := by rw [← hW0]; simp
  have hB0 : Below w.heap.size w W0 := by
    rw [← hW0]
    exact ((((Below.refl _ w).alloc (Nat.le_refl _) _).alloc (by simp) _).alloc (by simp; omega) _).alloc (by simp; omega) _
  have bU : Boxed W0 (w.heap.size + 1 + 1) 30 (.int .u64 0) := by
    rw [← hW0]
    have := (Boxed.new ((w.alloc (.cells #[.int .i64 n] 3)).alloc (.cells #[.func (.func 44) #[] #[.pointer (some ⟨w.heap.size, 0, none⟩)]] 63)) 30 (.int .u64 0)).alloc (.cells #[Value.slice none 0 0] 32)
    simpa using this
  have bN : Boxed W0 (w.heap.size + 1 + 1 + 1) 32 (Value.slice none 0 0) := by
    rw [← hW0]
    have := Boxed.new (((w.alloc (.cells #[.int .i64 n] 3)).alloc (.cells #[.func (.func 44) #[] #[.pointer (some ⟨w.heap.size, 0, none⟩)]] 63)).alloc (.cells #[.int .u64 0] 30)) 32 (Value.slice none 0 0)
    simpa using this
  clear hW0
  refine wpIn_rangeFunc_ownG rfl (by omega) (gf := 66) (lb := #[.pointer (some ⟨w.heap.size + 1 + 1 + 1, 0, none⟩)]) rfl trivial (enters_of Try.func66 (by kernel_rfl) rfl)
    (back_stops (w.heap.size + 1 + 1 + 1) w.heap.size _ [] noBytes (by simp) W0 (by omega) (by omega) bN.cell (.inl ⟨rfl, rfl⟩)) kpB_t (kpB_b (by omega) (by omega)) (Below.refl _ _) (fun _ => rfl)
    (fun pre W => Boxed W (w.heap.size + 1 + 1) 30 (.int .u64 (uOf pre)) ∧ Below w.heap.size w W)
    (fun _ _ _ => False)
    (OwnFrom.and (Own.from (boxed_own _ _ _) _) (ownFrom_below (Nat.le_refl _) (by omega)))
    (fun _ _ _ _ _ hs _ _ => hs)
    ⟨bU, hB0⟩
    (fun x => { tmps := #[.pointer none, .int .i64 a, .int .i64 n, undef, undef, undef, .int .i64 0, .int .i64 (-9), Value.slice none 0 0, .pointer (some ⟨w.heap.size + 1 + 1, 0, none⟩), undef, .int .u8 x.2.1,
      .tuple #[Value.slice none 0 0, .int .i64 (-9)], .pointer none, .int .i64 a, .int .i64 n, .int .i64 n, .func (.func 44) #[] #[.pointer (some ⟨w.heap.size, 0, none⟩)], .slice (some ⟨w.heap.size + 1, 0, none⟩) 1 1,
      .tuple #[Value.slice none 0 0, .int .i64 (-9)], Value.slice none 0 0, .int .i64 (-9), Value.slice none 0 0, .func (.func 66) #[] #[.pointer (some ⟨w.heap.size + 1 + 1 + 1, 0, none⟩)],
      .int .i64 (x.1 : Int), .int .u8 x.2.1, undef, undef, undef, undef, undef, undef, undef, undef], defers := [] }) ?assign ?body ?done ?stop
  case assign =>
    intro l x W K hK
    gi_wp2
    exact hK
  case body =>
    rintro l pre x W ⟨bW, hB⟩ _
    have hc := bW.cell
    have hf := bW.frozen
    obtain ⟨i, x, hx1, hx2⟩ := x
    gi_wp2
    rw [or_byte _ _ hx1 hx2]
    refine ⟨(KeepsOthers.setCell _ _ _).from _, ⟨(Below.refl w.heap.size W).setCell (p := ⟨w.heap.size + 1 + 1, 0, none⟩) (by simp; omega) _, Below.heap_setCell _ _ _ _ (by simp)⟩, ?_, hB.setCell (p := ⟨w.heap.size + 1 + 1, 0, none⟩) (by simp; omega) _⟩
    rw [uOf_snoc]
    exact bW.set _
  case done =>
    rintro D ys W hD rfl ⟨bW, hB⟩ hK
    have hc := bW.cell
    gi_wp2
    refine ⟨by simp, .inl ⟨_, _, rfl, run_takeDeferred hK, ?_⟩⟩
    exact ⟨_, results_tmp2 rfl _ _ _, (by simp [uOf, upto, wrap64]), Fr0.of (hB.trans (belowK_b (w := w) (Nat.le_refl _) W D _ _ (by omega) hK rfl rfl))⟩
  case stop =>
    rintro D c pre W _ _ h _
    exact h.elim

set_option maxRecDepth 100000 in
set_option maxHeartbeats 2000000 in
theorem get_zero {p : Nat} (a n : Int) (w : World) (h : NoSp w (.pointer (some ⟨p, 0, none⟩))) (ha : i64 a) (hn : 1 ≤ n) (hn' : n ≤ 8) :
    Calls Try.prog 31 #[.pointer (some ⟨p, 0, none⟩), .int .i64 a, .int .i64 n] w fun e w' => e = .returned (.tuple #[.int .i64 0, .int .i64 (-9)]) ∧ Fr0 w w' := by
  refine (callsIn_wide (n := 4)).1 ?_
  refine callsIn_of_wp_marks Try.func31 rfl trivial ?_ rfl
  simp only [Try.ntmps31, List.size_toArray, List.length_cons, List.length_nil, Nat.reduceAdd, Nat.reduceSub, Array.replicate_succ, Array.replicate_zero, List.push_toArray, List.append_toArray, List.nil_append, List.cons_append]
  have hr : i64 n := ⟨by omega, by omega⟩
  have hT : noT n = -9 := by unfold noT; rw [if_neg (by omega)]
  have HT := Lib.hid hT
  clear hT
  gi_wp2_with (first | (refine ⟨trivial, ?_⟩; gi_at_call 38; refine (callsIn_wide.2 (aligned_any n _)).mono ?_; rintro e w' ⟨rfl, rfl⟩) | (refine ⟨trivial, ?_⟩; gi_at_call 33; refine (callsIn_wide.2 (reach_none a n _ _ _ ((h.alloc _).alloc _) ha hr)).mono ?_; rw [HT.out]; rintro e w' ⟨rfl, rfl⟩) | (refine ⟨trivial, ?_⟩; gi_at_call 42; refine (callsIn_wide.2 (back_any _ _ none 0 0 rfl)).mono ?_; rintro e w' ⟨rfl, rfl⟩))
  obtain ⟨W0, hW0⟩ : ∃ W0, ((((w.alloc (.cells #[.int .i64 n] 3)).alloc (.cells #[.func (.func 44) #[] #[.pointer (some ⟨w.heap.size, 0, none⟩)]] 63)).alloc (.cells #[.int .u64 0] 30)).alloc (.cells #[Value.slice none 0 0] 32)) = W0 := ⟨_, rfl⟩
  rw [hW0]
  have hsz : W0.heap.size = w.heap.size + 4 := by rw [← hW0]; simp
  have hB0 : Below w.heap.size w W0 := by
    rw [← hW0]
    exact ((((Below.refl _ w).alloc (Nat.le_refl _) _).alloc (by simp) _).alloc (by simp; omega) _).alloc (by simp; omega) _
  have bU : Boxed W0 (w.heap.size + 1 + 1) 30 (.int .u64 0) := by
    rw [← hW0]
    have := (Boxed.new ((w.alloc (.cells #[.int .i64 n] 3)).alloc (.cells #[.func (.func 44) #[] #[.pointer (some ⟨w.heap.size, 0, none⟩)]] 63)) 30 (.int .u64 0)).alloc (.cells #[Value.slice none 0 0] 32)
    simpa using this
  have bN : Boxed W0 (w.heap.size + 1 + 1 + 1) 32 (Value.slice none 0 0) := by
    rw [← hW0]
    have := Boxed.new (((w.alloc (.cells #[.int .i64 n] 3)).alloc (.cells #[.func (.func 44) #[] #[.pointer (some ⟨w.heap.size, 0, none⟩)]] 63)).alloc (.cells #[.int .u64 0] 30)) 32 (Value.slice none 0 0)
    simpa using this
  clear hW0
  refine wpIn_rangeFunc_ownG rfl (by omega) (gf := 66) (lb := #[.pointer (some ⟨w.heap.size + 1 + 1 + 1, 0, none⟩)]) rfl trivial (enters_of Try.func66 (by kernel_rfl) rfl)
    (back_stops (w.heap.size + 1 + 1 + 1) w.heap.size _ [] noBytes (by simp) W0 (by omega) (by omega) bN.cell (.inl ⟨rfl, rfl⟩)) kpB_t (kpB_b (by omega) (by omega)) (Below.refl _ _) (fun _ => rfl)
    (fun pre W => Boxed W (w.heap.size + 1 + 1) 30 (.int .u64 (uOf pre)) ∧ Below w.heap.size w W)
    (fun _ _ _ => False)
    (OwnFrom.and (Own.from (boxed_own _ _ _) _) (ownFrom_below (Nat.le_refl _) (by omega)))
    (fun _ _ _ _ _ hs _ _ => hs)
    ⟨bU, hB0⟩
    (fun x => { tmps := #[.pointer (some ⟨p, 0, none⟩), .int .i64 a, .int .i64 n, undef, undef, undef, .int .i64 0, .int .i64 (-9), Value.slice none 0 0, .pointer (some ⟨w.heap.size + 1 + 1, 0, none⟩), undef, .int .u8 x.2.1,
      .tuple #[Value.slice none 0 0, .int .i64 (-9)], .pointer (some ⟨p, 0, none⟩), .int .i64 a, .int .i64 n, .int .i64 n, .func (.func 44) #[] #[.pointer (some ⟨w.heap.size, 0, none⟩)], .slice (some ⟨w.heap.size + 1, 0, none⟩) 1 1,
      .tuple #[Value.slice none 0 0, .int .i64 (-9)], Value.slice none 0 0, .int .i64 (-9), Value.slice none 0 0, .func (.func 66) #[] #[.pointer (some ⟨w.heap.size + 1 + 1 + 1, 0, none⟩)],
      .int .i64 (x.1 : Int), .int .u8 x.2.1, undef, undef, undef, undef, undef, undef, undef, undef], defers := [] }) ?assign ?body ?done ?stop
  case assign =>
    intro l x W K hK
    gi_wp2
    exact hK
  case body =>
    rintro l pre x W ⟨bW, hB⟩ _
    have hc := bW.cell
    have hf := bW.frozen
    obtain ⟨i, x, hx1, hx2⟩ := x
    gi_wp2
    rw [or_byte _ _ hx1 hx2]
    refine ⟨(KeepsOthers.setCell _ _ _).from _, ⟨(Below.refl w.heap.size W).setCell (p := ⟨w.heap.size + 1 + 1, 0, none⟩) (by simp; omega) _, Below.heap_setCell _ _ _ _ (by simp)⟩, ?_, hB.setCell (p := ⟨w.heap.size + 1 + 1, 0, none⟩) (by simp; omega) _⟩
    rw [uOf_snoc]
    exact bW.set _
  case done =>
    rintro D ys W hD rfl ⟨bW, hB⟩ hK
    have hc := bW.cell
    gi_wp2
    refine ⟨by simp, .inl ⟨_, _, rfl, run_takeDeferred hK, ?_⟩⟩
    exact ⟨_, results_tmp2 rfl _ _ _, (by simp [uOf, upto, wrap64]), Fr0.of (hB.trans (belowK_b (w := w) (Nat.le_refl _) W D _ _ (by omega) hK rfl rfl))⟩
  case stop =>
    rintro D c pre W _ _ h _
    exact h.elim

theorem get_none (a n : Int) (w : World) (s : Value) (h : NoSp w s) (ha : i64 a) (hn : 1 ≤ n) (hn' : n ≤ 8) :
    Calls Try.prog 31 #[s, .int .i64 a, .int .i64 n] w fun e w' => e = .returned (.tuple #[.int .i64 0, .int .i64 (-9)]) ∧ Fr0 w w' := by
  rcases h with rfl | ⟨g, rfl, hb⟩
  · exact get_nil a n w (.inl rfl) ha hn hn'
  · exact get_zero a n w (.inr ⟨_, rfl, hb⟩) ha hn hn'
set_option maxHeartbeats 400000 in
theorem Fetch_none (a : Int) (w : World) (s : Value) (h : NoSp w s) (ha : i64 a) :
    Calls Try.prog 14 #[s, .int .i64 a] w fun e w' => e = .returned (.tuple #[.int .i64 0, .int .i64 (-9)]) ∧ Fr0 w w' := by
  have hG := get_none a 8 w s h ha (by omega) (by omega)
  rcases h with rfl | ⟨g, rfl, hb⟩
  all_goals
    go_enter Try.func14, Try.ntmps14
    go_wp2_with (go_at_call 31; refine hG.mono ?_; rintro e w1 ⟨rfl, hf⟩)
    go_ret2
    exact ⟨rfl, hf⟩
end Go.Proofs.Ytkgihajpobajaaa
