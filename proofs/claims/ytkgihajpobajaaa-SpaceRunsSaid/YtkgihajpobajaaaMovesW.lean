/- SpaceMoves: the walk. -/
import Derived.Test.YtkgihajpobajaaaSame
import Derived.Test.YtkgihajpobajaaaMove
import Derived.Test.YtkgihajpobajaaaPure9
namespace Go.Proofs.Ytkgihajpobajaaa
open Go Go.RowKit

theorem openT_far {a n : Int} (h : 65544 ≤ a) : openT a n = 0 := by unfold openT; rw [if_neg (by omega)]
theorem putT_far {L : Nat} {a : Int} {m : Nat} (h : 65544 ≤ a) (h2 : a + m ≤ 65536 + L) : putT L a m = 0 := by
  unfold putT
  rw [openT_far h]
  rcases Nat.eq_zero_or_pos m with h0 | h0
  · subst h0; simp [reachT]
  · rw [reachT_in ⟨by omega, by omega, by omega⟩]
theorem reachT_far {L : Nat} {a n : Int} (hn : 0 ≤ n) (h : 65536 ≤ a) (h2 : a + n ≤ 65536 + L) : reachT L a n 0 = 0 := by
  rcases Int.lt_or_le 0 n with h0 | h0
  · rw [reachT_in ⟨by omega, by omega, by omega⟩]
  · rw [show n = 0 by omega]; simp [reachT]

theorem moves_pure {bs zs : List Int} {f t n : Nat} (hn : n ≤ zs.length) (h1 : f + zs.length ≤ bs.length) (h2 : t + n ≤ bs.length) :
    ((poke (poke bs f zs) t (((poke bs f zs).drop f).take n)).drop t).take n = zs.take n := by
  have hl := poke_length bs f zs h1
  have e1 : ((poke bs f zs).drop f).take n = zs.take n := by
    have := poke_take (bs := bs) (l := zs) (off := f) h1
    calc ((poke bs f zs).drop f).take n = (((poke bs f zs).drop f).take zs.length).take n := by rw [List.take_take, Nat.min_eq_left hn]
      _ = zs.take n := by rw [this]
  rw [e1]
  have e2 : (zs.take n).length = n := by simp; omega
  have := poke_take (bs := poke bs f zs) (l := zs.take n) (off := t) (by omega)
  rw [e2] at this
  exact this

set_option maxRecDepth 100000 in
set_option maxHeartbeats 4000000 in
theorem moves_walk (f t n : Int) (sv : Value) (zs : List Int) (w : World) (_hf : i64 f) (_ht : i64 t) (_hn : i64 n) (hs : Row8 w w.heap.size sv zs) :
    Calls Try.prog 6 #[.int .i64 f, .int .i64 t, .int .i64 n, sv] w fun e w' => e = .returned (.bool true) ∧ Fr0 w w' := by
  have hs0 := hs
  have hzl := hs.len
  obtain ⟨A, cap, rfl, hcap, hcap2, _⟩ := hs
  obtain ⟨hcap2, _⟩ := hcap2
  by_cases hg : zs.length ≤ 3000 ∧ 0 ≤ n ∧ n ≤ zs.length ∧ 0 ≤ f ∧ f ≤ 2000 ∧ 0 ≤ t ∧ t ≤ 2000
  · obtain ⟨g1, g2, g3, g4, g5, g6, g7⟩ := hg
    have hN := New_ok 8192 0 w (by unfold newOk; decide)
    rw [show (12288 + (8192 : Int) + 0).toNat = 20480 from rfl] at hN
    have HN := Lib.hid hN
    clear hN
    go_enter Try.func6, Try.ntmps6
    go_wp2_with (go_at_call 10; refine HN.out.mono ?_; rintro e w1 ⟨rfl, hf1, hs1, h1⟩)
    have hP := Put_any (77824 + f) _ zs w1 h1 ⟨by omega, by omega⟩ _ (hs0.below hf1.below0) hf1.size
    have eT : putT (noughts 20480).length (77824 + f) zs.length = 0 := putT_far (by omega) (by rw [noughts_length]; omega)
    rw [eT, if_pos rfl] at hP
    have HP := Lib.hid hP
    clear hP eT
    refine HP.out.mono ?_
    rintro e w2 ⟨rfl, hf2, h2⟩
    have hl2 : (poke (noughts 20480) (77824 + f - 65536).toNat zs).length = 20480 := by rw [poke_length _ _ _ (by rw [noughts_length]; omega), noughts_length]
    have hM := Move_any (77824 + f) (77824 + t) n w2 h2 ⟨by omega, by omega⟩ ⟨by omega, by omega⟩ ⟨by omega, by omega⟩
    have eB : bothT (poke (noughts 20480) (77824 + f - 65536).toNat zs).length (77824 + f) (77824 + t) n = 0 := by
      obtain ⟨m, rfl⟩ : ∃ m : Nat, n = (m : Int) := ⟨n.toNat, by omega⟩
      unfold bothT
      rw [reachT_far (by omega) (by omega) (by rw [hl2]; omega), if_pos rfl]
      exact putT_far (by omega) (by rw [hl2]; omega)
    rw [eB] at hM
    unfold moveB at hM
    rw [if_pos eB] at hM
    have HM := Lib.hid hM
    clear hM eB
    go_wp2_with fail
    refine HM.out.mono ?_
    rintro e w3 ⟨rfl, hf3, h3⟩
    have hC := Bytes_any (77824 + t) n w3 h3 ⟨by omega, by omega⟩ ⟨by omega, by omega⟩
    have hl3 : (poke (poke (noughts 20480) (77824 + f - 65536).toNat zs) (77824 + t - 65536).toNat (((poke (noughts 20480) (77824 + f - 65536).toNat zs).drop (77824 + f - 65536).toNat).take n.toNat)).length = 20480 := by
      rw [poke_length _ _ _ (by rw [hl2]; simp; omega), hl2]
    have eR : reachT (poke (poke (noughts 20480) (77824 + f - 65536).toNat zs) (77824 + t - 65536).toNat (((poke (noughts 20480) (77824 + f - 65536).toNat zs).drop (77824 + f - 65536).toNat).take n.toNat)).length (77824 + t) n 0 = 0 := reachT_far g2 (by omega) (by rw [hl3]; omega)
    rw [eR] at hC
    unfold bytesV at hC
    rw [if_pos eR, moves_pure (by omega) (by rw [noughts_length]; omega) (by rw [noughts_length]; omega)] at hC
    have HC := Lib.hid hC
    clear hC eR hl3 hl2
    go_wp2_with fail
    refine HC.out.mono ?_
    rintro e w4 ⟨_, rfl, u, rfl, ho, hf4⟩
    have hz1 := hf1.size
    have hf04 : Fr0 w w4 := ((hf1.then hf2 (fun k hk e => by omega)).then hf3 (fun k hk e => by omega)).trans hf4
    have hr := ho.row (hs0.bytes.take _) (by simp; omega)
    have hfr := (hs0.below hf04.below0).front (k := n.toNat) (by omega)
    go_wp2_with (go_at_call 16; refine (same_any _ _ _ _ _ _ _ hr hfr).mono ?_; rintro e w5 ⟨rfl, rfl⟩; simp only [decide_true])
    refine (awake9 _).mono ?_
    rintro e w5 ⟨rfl, hf5⟩
    go_wp2_with fail
    go_ret
    exact ⟨rfl, hf04.trans hf5⟩
  · go_enter Try.func6, Try.ntmps6
    go_wp2_with (go_at_call 13; refine (awake9 _).mono ?_; rintro e w1 ⟨rfl, hf1⟩)
    all_goals (go_ret; exact ⟨rfl, hf1⟩)

end Go.Proofs.Ytkgihajpobajaaa
