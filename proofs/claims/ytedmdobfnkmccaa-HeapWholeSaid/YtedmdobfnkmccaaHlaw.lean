/- The laws' own small functions of chapter 11: New of the document's heap, blocks, awake. -/
import Derived.Test.YtedmdobfnkmccaaHref5
namespace Go.Proofs.Ytedmdobfnkmccaa
open Go Go.RowKit

theorem newL_inv {a b : Int} (h : newOk a b) : Inv a b (newL a b) := by
  obtain ⟨h1, h2, h3, h4, h5⟩ := h
  unfold newL
  split
  · exact ⟨⟨rfl, by dsimp only; omega, by dsimp only; omega, by show a + (b - a) = b; omega⟩, (fun x hx => by simp at hx; subst hx; dsimp only; omega), trivial⟩
  · exact ⟨by show a = b; omega, (fun x hx => by simp at hx), trivial⟩

set_option maxHeartbeats 2000000 in
theorem NewR_ok (a b : Int) (w : World) (h : newOk a b) (hb : b ≤ 9223372036854775807) :
    Calls Try.prog 10 #[.int .i64 a, .int .i64 b] w fun e w' => e = .returned (.tuple #[ptr w.heap.size, .int .i64 0]) ∧ Fr0 w w' ∧ ∃ sv, RInv w' w.heap.size w.heap.size sv a b (newL a b) := by
  have hiv := newL_inv h
  obtain ⟨h1, h2, h3, h4, h5⟩ := h
  obtain ⟨i0, hi, hz0, hz1, hz2⟩ := info_parts infoR
  have e3 : (a % 8 != 0) = false := by simp [h3]
  have e4 : (b % 8 != 0) = false := by simp [h4]
  have HIV := Lib.hid hiv
  clear h3 h4 hiv
  by_cases hab : a < b
  · have eL : newL a b = [⟨a, b - a, true⟩] := by unfold newL; rw [if_pos hab]
    have HL := Lib.hid eL
    clear eL
    have hown : ∀ cs cs', ((w.alloc (.cells cs 41)).alloc (.cells cs' 62)).ownsRow (w.heap.size + 1) 62 3 (.slice none 0 0) 0 [] := fun _ _ => World.ownsRow_nil _ _ _ _
    go_enter Try.func10, Try.ntmps10
    have hob : ∀ cs', Blk ((w.alloc (.cells #[.slice none 0 0] 41)).alloc (.cells cs' 62)) w.heap.size 41 #[.slice none 0 0] := fun cs' => (Blk.new w _ _).alloc _
    have HO := Lib.hid hob
    clear hob
    go_wp2_with (at_builtin; refine wpList_append_src (m := 1) (v := .slice none 0 0) (news := bkv ⟨a, b - a, true⟩) rfl (.tmp 39) (.tmp 45) rfl Try.underlying39 hi hz0 hz1 hz2 rfl (by decide) rfl rfl (hown _ _) (Src.new' (by simp) _ rfl _) (fun u hu => rowB_one (L := [⟨a, b - a, true⟩]) u (by simpa [rowB] using hu)) (by unfold maxLen; omega) (by omega) (by simp) ?_; intro v2 w2 ho2 hg2 hk2; have hb2 := (HO.out _).grown hg2 (by intro e; cases e); have HG2 := Lib.hid hg2; have HB2 := Lib.hid hb2; have c2 := hb2.cell 0; have y2 := hb2.frozen 0; obtain ⟨A2, cap2, rfl⟩ := own_form ho2; clear hg2 hb2)
    go_ret2
    have hlo2 := own_lo ho2
    refine ⟨rfl, (((((Fr.refl (fun _ => False) w).alloc _).alloc _).grown HG2.out (fun k hk => by cases hk)).setCell (p := ⟨w.heap.size, 0, none⟩) (.inr (Nat.le_refl _)) _), _, ⟨⟨HB2.out.set_ 0 _, ?_, Nat.le_refl _⟩, HIV.out, h1, by omega, h5, ?_⟩⟩
    · rw [HL.out]
      refine own_mono (own_fr ho2 ((Fr.refl (fun k => k = w.heap.size) _).setCell (p := ⟨w.heap.size, 0, none⟩) (.inl rfl) _) (fun k hk e => ?_)) (Nat.le_succ _)
      have := (hlo2 k hk).1
      omega
    · have := HG2.out.size
      simp [World.setCell] at this ⊢
      omega
  · have eL : newL a b = [] := by unfold newL; rw [if_neg hab]
    have HL := Lib.hid eL
    clear eL
    go_enter Try.func10, Try.ntmps10
    go_wp2
    go_ret2
    refine ⟨rfl, (Fr.refl _ w).alloc _, .slice none 0 0, ⟨⟨Blk.new w _ _, ?_, Nat.le_refl _⟩, HIV.out, h1, by omega, h5, by simp⟩⟩
    rw [HL.out]
    exact World.ownsRow_nil _ _ _ _

set_option maxHeartbeats 2000000 in
theorem NewR_err (a b : Int) (w : World) (h : ¬ newOk a b) (ha : -9223372036854775808 ≤ a ∧ a ≤ 9223372036854775807) (hb : -9223372036854775808 ≤ b ∧ b ≤ 9223372036854775807) :
    Calls Try.prog 10 #[.int .i64 a, .int .i64 b] w fun e w' => e = .returned (.tuple #[nil_, .int .i64 1]) ∧ w' = w := by
  obtain ⟨a1, a2⟩ := ha
  obtain ⟨b1, b2⟩ := hb
  by_cases h1 : a < 0
  · by_cases h2 : b < 0
    · cases e3 : (Int.tmod a 8 != 0) <;> cases e4 : (Int.tmod b 8 != 0)
      all_goals
        clear h
        go_enter Try.func10, Try.ntmps10
        go_wp2
        go_ret2
        exact ⟨rfl, rfl⟩
    · have h2' : 0 ≤ b := by omega
      cases e3 : (Int.tmod a 8 != 0) <;> cases e4 : (b % 8 != 0)
      all_goals
        clear h h2
        go_enter Try.func10, Try.ntmps10
        go_wp2
        go_ret2
        exact ⟨rfl, rfl⟩
  have h1' : 0 ≤ a := by omega
  clear h1
  by_cases h2 : b < 0
  · cases e3 : (a % 8 != 0) <;> cases e4 : (Int.tmod b 8 != 0)
    all_goals
      clear h
      go_enter Try.func10, Try.ntmps10
      go_wp2
      go_ret2
      exact ⟨rfl, rfl⟩
  have h2' : 0 ≤ b := by omega
  clear h2
  by_cases h3 : a % 8 = 0
  · have e3 : (a % 8 != 0) = false := by simp [h3]
    by_cases h4 : b % 8 = 0
    · have e4 : (b % 8 != 0) = false := by simp [h4]
      by_cases h5 : b < a
      · clear h h3 h4
        go_enter Try.func10, Try.ntmps10
        go_wp2
        go_ret2
        exact ⟨rfl, rfl⟩
      · have h6 : 1048576 < b - a := by
          unfold newOk at h
          omega
        have h5' : a ≤ b := by omega
        clear h h3 h4 h5
        go_enter Try.func10, Try.ntmps10
        go_wp2
        go_ret2
        exact ⟨rfl, rfl⟩
    · have e4 : (b % 8 != 0) = true := by simp [h4]
      clear h h3 h4
      go_enter Try.func10, Try.ntmps10
      go_wp2
      go_ret2
      exact ⟨rfl, rfl⟩
  · have e3 : (a % 8 != 0) = true := by simp [h3]
    clear h h3
    go_enter Try.func10, Try.ntmps10
    go_wp2
    go_ret2
    exact ⟨rfl, rfl⟩

set_option maxHeartbeats 2000000 in
theorem awake11 (w : World) : Calls Try.prog 8 #[] w fun e w' => e = .returned (.bool true) ∧ Fr0 w w' := by
  have HN := Lib.hid (New_ok 8 72 w (by unfold newOk; decide) (by decide))
  go_enter Try.func8, Try.ntmps8
  simp only [ptr] at HN
  go_wp2_with (go_at_call 9; refine HN.out.mono ?_; rintro e w1 ⟨rfl, hf1, L1, h1, e1⟩)
  have hA := Allocate_any 1 w1 h1
  rw [e1, show allocR 1 (newL 8 72) = (8, 0, [⟨8, 8, false⟩, ⟨16, 56, true⟩]) from rfl] at hA
  refine hA.mono ?_
  rintro e w2 ⟨rfl, hf2, L2, h2, hw2, e2⟩
  have hA2 := Allocate_any 20 w2 h2
  rw [e2, show allocR 20 ((8, 0, [⟨8, 8, false⟩, ⟨16, 56, true⟩]) : Int × Int × List Bk).2.2 = (16, 0, [⟨8, 8, false⟩, ⟨16, 24, false⟩, ⟨40, 32, true⟩]) from rfl] at hA2
  go_wp2_with fail
  refine hA2.mono ?_
  rintro e w3 ⟨rfl, hf3, L3, h3, hw3, e3⟩
  have hA3 := Free_any 9 w3 h3
  rw [e3, show freeR 9 ((16, 0, [⟨8, 8, false⟩, ⟨16, 24, false⟩, ⟨40, 32, true⟩]) : Int × Int × List Bk).2.2 = (-60, [⟨8, 8, false⟩, ⟨16, 24, false⟩, ⟨40, 32, true⟩]) from rfl] at hA3
  go_wp2_with fail
  refine hA3.mono ?_
  rintro e w4 ⟨rfl, hf4, L4, h4, hw4, e4⟩
  go_wp2_with fail
  go_ret
  refine ⟨rfl, ?_⟩
  have hlo1 := h1.lo
  have hlo2 := h2.lo
  have hlo3 := h3.lo
  have k1 : ∀ k, k < w.heap.size → HIn (w.heap.size + 1) w.heap.size L1 k → False := fun k hk e => by
    rcases e with e | e | e
    · omega
    · omega
    · have := hlo1.2.2 k e; omega
  have k2 : ∀ k, k < w.heap.size → HIn (w.heap.size + 1) w.heap.size L2 k → False := fun k hk e => by
    rcases e with e | e | e
    · omega
    · omega
    · have := hlo2.2.2 k e; omega
  have k3 : ∀ k, k < w.heap.size → HIn (w.heap.size + 1) w.heap.size L3 k → False := fun k hk e => by
    rcases e with e | e | e
    · omega
    · omega
    · have := hlo3.2.2 k e; omega
  exact ((hf1.then hf2 k1).then hf3 k2).then hf4 k3
end Go.Proofs.Ytedmdobfnkmccaa
