/- SpaceOwn: the walk. -/
import Derived.Test.YtkgihajpobajaaaSame
import Derived.Test.YtkgihajpobajaaaPure9
namespace Go.Proofs.Ytkgihajpobajaaa
open Go Go.RowKit

theorem own_bytes {bs zs : List Int} {a : Int} (h : putT bs.length a zs.length = 0) :
    reachT (poke bs (a - 65536).toNat zs).length a zs.length 0 = 0 ∧ bytesV (poke bs (a - 65536).toNat zs) a zs.length = zs ∧ (poke bs (a - 65536).toNat zs).length = bs.length := by
  rcases Nat.eq_zero_or_pos zs.length with h0 | h0
  · obtain rfl := List.eq_nil_of_length_eq_zero h0
    rw [poke_nil]
    refine ⟨by simp [reachT], ?_, rfl⟩
    unfold bytesV
    rw [if_pos (by simp [reachT])]
    simp
  · obtain ⟨k1, k2, k3⟩ := reachT_zero h (by omega)
    have hl := poke_length bs (a - 65536).toNat zs (by omega)
    have hr : reachT (poke bs (a - 65536).toNat zs).length a zs.length 0 = 0 := by rw [hl, reachT_in ⟨by omega, k1, k2⟩]
    refine ⟨hr, ?_, hl⟩
    unfold bytesV
    rw [if_pos hr, Int.toNat_natCast]
    exact poke_take (by omega)

set_option maxRecDepth 100000 in
set_option maxHeartbeats 2000000 in
theorem own_walk (a : Int) (sv : Value) (zs : List Int) (w : World) (ha : i64 a) (hs : Row8 w w.heap.size sv zs) :
    Calls Try.prog 4 #[.int .i64 a, sv] w fun e w' => e = .returned (.bool true) ∧ Fr0 w w' := by
  have hN := New_ok 4096 8192 w (by unfold newOk; decide)
  rw [show (12288 + (4096 : Int) + 8192).toNat = 24576 from rfl] at hN
  have HN := Lib.hid hN
  clear hN
  have hzl := hs.len
  have hs0 := hs
  obtain ⟨A, cap, rfl, hcap, _⟩ := hs
  by_cases hlt : 3000 < zs.length
  · go_enter Try.func4, Try.ntmps4
    go_wp2_with (go_at_call 13; refine (awake9 _).mono ?_; rintro e w1 ⟨rfl, hf⟩)
    go_ret
    exact ⟨rfl, hf⟩
  · have hz3 : zs.length ≤ 3000 := by omega
    clear hlt
    go_enter Try.func4, Try.ntmps4
    go_wp2_with (first | (go_at_call 10; refine HN.out.mono ?_; rintro e w1 ⟨rfl, hf1, hs1, h1⟩) | (at_builtin; refine wpList_append8 rfl (.tmp 29) (.tmp 30) rfl rfl rfl rfl (base := w1.heap.size) (xs := []) (World.ownsRow_nil _ _ _ _) (hs0.below hf1.below0) (Nat.le_refl _) (by simp; omega) ?_; intro v2 w2 ho2 hg2 hk2) | (at_builtin; refine wpList_append8 rfl (.tmp 32) (.tmp 33) rfl rfl rfl rfl (base := w1.heap.size) (v := v2) (xs := [] ++ zs) (ho2.fr ((Fr.refl (fun _ => False) _).alloc _) (fun _ _ x => x)) (Row8.new w2 5 [77] (by intro x hx; simp at hx; omega) (by simp)) (by have := hg2.size; simp; omega) (by simp; omega) ?_; intro v3 w3 ho3 hg3 hk3; have hq3 := ho3.form (by simp); obtain ⟨g3, c3, rfl, hb3, hl3, hc3, hm3⟩ := hq3; simp only [List.nil_append, List.length_append, List.length_cons, List.length_nil, Nat.zero_add] at hc3 ho3 ⊢; have hc4 : zs.length ≤ c3 := by omega))
    have hz8 := hs0.bytes
    have hf13 : Fr0 w1 w3 := ((((Fr.refl _ w1).grown hg2 (fun k hk => by cases hk)).alloc _).grown hg3 (fun k hk => by
      rcases hk2 with e | e
      · rw [e] at hk; cases hk
      · rw [e] at hk; cases hk; exact .inr (Nat.le_refl _)))
    have hn3 : (zs ++ [77]).length = zs.length + 1 := by simp
    have hrow : ∀ W, Own8 W w1.heap.size (.slice (some ⟨g3, 0, none⟩) (zs.length + 1) c3) (zs ++ [77]) → Row8 W W.heap.size (.slice (some ⟨g3, 0, none⟩) zs.length c3) zs := fun W ho => by
      have := (Own8.row ho (hz8.append (by intro x hx; simp at hx; omega)) (by rw [hn3]; omega)).front (k := zs.length) (by omega)
      simpa using this
    have hr3 := hrow w3 ho3
    have h3 := h1.fr0 hf13
    have hz1 := hf1.size
    have hz2 := hf13.size
    refine (Put_any a _ zs w3 h3 ha _ hr3 (Nat.le_refl _)).mono ?_
    rintro e w4 ⟨rfl, hf4, h4⟩
    have hgg : g3 ≠ w.heap.size := by omega
    have hf04 : Fr0 w w4 := (hf1.trans hf13).then hf4 (fun k hk e => by omega)
    have ho4 := ho3.fr hf4 (fun k hk => by cases hk; exact hgg)
    have hr4 := hrow w4 ho4
    have hc77 := Own8.cell ho4 (by simp) (j := zs.length) (by simp)
    simp only [List.getElem_concat_length] at hc77
    go_wp2_with (go_at_call 16; refine (same_any _ _ _ _ _ _ _ hr4 (hs0.below hf04.below0)).mono ?_; rintro e w5 ⟨rfl, rfl⟩)
    have hk := hz8
    go_loopw [9] (fun i wr => ∃ (k : Nat) (ys : List Int), k ≤ zs.length + 1 ∧ i = .int .i64 k ∧ ys.length = zs.length + 1 ∧ Own8 wr w1.heap.size (.slice (some ⟨g3, 0, none⟩) (zs.length + 1) c3) ys ∧ Fr1 g3 w4 wr) (fun i _ => zs.length + 1 - (intOf i).toNat)
    case atStart => exact ⟨0, zs ++ [77], by omega, rfl, by simp, ho4, Fr.refl _ _⟩
    case round =>
      obtain ⟨k, ys, hk, rfl, hyl, hoy, hfr⟩ := hrel
      by_cases hlt : k < zs.length + 1
      · obtain ⟨y, hc⟩ := Own8.cellE hoy hyl.symm (j := k) (by omega)
        have hz := Own8.frozen hoy hyl.symm k
        have HY := Lib.hid hyl
        clear hyl
        go_wp2
        go_roundw
        case rel => exact ⟨k + 1, ys.set k 3, by omega, by go_num, by rw [List.length_set]; exact HY.out, Own8.stored hoy HY.out.symm k 3, hfr.setCell (.inl rfl) _⟩
        case measure => simp [intOf]; omega
      · obtain rfl : k = zs.length + 1 := by omega
        have HY := Lib.hid hyl
        clear hyl
        have h5 : Sp wr (w.heap.size + 1) w.heap.size _ 4096 77824 := h4.fr hfr (by omega) (by omega)
        have hf05 : Fr0 w wr := hf04.then hfr (fun k hk e => by omega)
        by_cases hT : putT (noughts 24576).length a zs.length = 0
        · rw [if_pos hT] at h5
          rw [hT]
          obtain ⟨e1, e2, e3⟩ := own_bytes hT
          have hB5 := Bytes_any a zs.length _ h5 ha ⟨by omega, by omega⟩
          rw [e1, e2] at hB5
          have HB := Lib.hid hB5
          clear hB5 hT
          go_wp2_with (go_at_call 17; refine HB.out.mono ?_; rintro e w6 ⟨_, rfl, u6, rfl, ho6, hf6⟩)
          have hf06 := hf05.trans hf6
          have hs6 := h5.obj.lt
          have h6 := h5.fr0 hf6
          have hr6 := Own8.row ho6 hz8 (by omega)
          refine (same_any _ _ _ _ _ _ _ hr6 (hs0.below hf06.below0)).mono ?_
          rintro e w7 ⟨rfl, rfl⟩
          simp only [decide_true]
          have ho6' := ho6
          rcases ho6.2 with ⟨rfl, hn⟩ | ⟨g6, c6, cur, rfl, hg6, hh6, hc6, hm6, _⟩
          · obtain rfl := List.eq_nil_of_length_eq_zero hn
            go_wp2_with fail
            refine wp_loop_rounds 1 ?_
            rw [rounds_succ]
            have hBz := Bytes_any a (List.length (α := Int) []) _ h6 ha ⟨by simp, by simp⟩
            rw [e1, e2] at hBz
            have HBz := Lib.hid hBz
            clear hBz
            go_wp2_with fail
            refine HBz.out.mono ?_
            rintro e w8 ⟨_, rfl, u8, rfl, ho8, hf8⟩
            have hr8 := Own8.row ho8 hz8 (by omega)
            go_wp2_with fail
            refine (same_any _ _ _ _ _ _ _ hr8 (hs0.below (hf06.trans hf8).below0)).mono ?_
            rintro e w9 ⟨rfl, rfl⟩
            simp only [decide_true]
            go_wp2_with fail
            refine (awake9 _).mono ?_
            rintro e w9 ⟨rfl, hf9⟩
            go_wp2_with fail
            go_ret
            exact ⟨rfl, (hf06.trans hf8).trans hf9⟩
          · go_wp2_with fail
            go_loopw [12] (fun i wr2 => ∃ (k : Nat) (ys : List Int), k ≤ zs.length ∧ i = .int .i64 k ∧ ys.length = zs.length ∧ Own8 wr2 wr.heap.size (.slice (some ⟨g6, 0, none⟩) zs.length c6) ys ∧ Fr1 g6 w6 wr2) (fun i _ => zs.length - (intOf i).toNat)
            case atStart => exact ⟨0, zs, by omega, rfl, rfl, ho6', Fr.refl _ _⟩
            case round =>
              obtain ⟨k, ys, hk, rfl, hyl, hoy, hfr⟩ := hrel
              by_cases hlt : k < zs.length
              · obtain ⟨y, hc⟩ := Own8.cellE hoy hyl.symm (j := k) (by omega)
                have hz := Own8.frozen hoy hyl.symm k
                have HY2 := Lib.hid hyl
                clear hyl
                go_wp2
                go_roundw
                case rel => exact ⟨k + 1, ys.set k 5, by omega, by go_num, by rw [List.length_set]; exact HY2.out, Own8.stored hoy HY2.out.symm k 5, hfr.setCell (.inl rfl) _⟩
                case measure => simp [intOf]; omega
              · obtain rfl : k = zs.length := by omega
                have HY2 := Lib.hid hyl
                clear hyl
                have h7 := h6.fr hfr (by omega) (by omega)
                have hf07 : Fr0 w wr := hf06.then hfr (fun k hk e => by omega)
                have hBz := Bytes_any a zs.length _ h7 ha ⟨by omega, by omega⟩
                rw [e1, e2] at hBz
                have HBz := Lib.hid hBz
                clear hBz
                go_wp2_with (go_at_call 17; refine HBz.out.mono ?_; rintro e w8 ⟨_, rfl, u8, rfl, ho8, hf8⟩)
                have hr8 := Own8.row ho8 hz8 (by omega)
                refine (same_any _ _ _ _ _ _ _ hr8 (hs0.below (hf07.trans hf8).below0)).mono ?_
                rintro e w9 ⟨rfl, rfl⟩
                simp only [decide_true]
                go_wp2_with fail
                refine (awake9 _).mono ?_
                rintro e w9 ⟨rfl, hf9⟩
                go_wp2_with fail
                go_ret
                exact ⟨rfl, (hf07.trans hf8).trans hf9⟩
        · have hT' : (putT (noughts 24576).length a zs.length != 0) = true := by simpa using hT
          rw [if_neg hT] at h5
          clear hT
          go_wp2_with (go_at_call 17; refine (Bytes_any a zs.length _ h5 ha ⟨by omega, by omega⟩).mono ?_; rintro e w6 ⟨_, rfl, u6, rfl, ho6, hf6⟩)
          refine (awake9 w6).mono ?_
          rintro e w7 ⟨rfl, hf7⟩
          go_wp2_with fail
          go_ret
          exact ⟨rfl, hf05.trans (hf6.trans hf7)⟩

end Go.Proofs.Ytkgihajpobajaaa
