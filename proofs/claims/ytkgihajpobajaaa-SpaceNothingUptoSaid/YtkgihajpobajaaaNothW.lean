/- The walk of SpaceNothing. -/
import Derived.Test.YtkgihajpobajaaaMuch9
import Derived.Test.YtkgihajpobajaaaNone3
import Derived.Test.YtkgihajpobajaaaAwake9
namespace Go.Proofs.Ytkgihajpobajaaa
open Go Go.RowKit

theorem cells5 {W : World} {g : Nat} {t : TypeId} {c0 c1 c2 c3 c4 : Value} (h : Blk W g t #[c0, c1, c2, c3, c4]) : W.cell? ⟨g, 0, none⟩ = some c0 ∧ W.cell? ⟨g, 1, none⟩ = some c1 ∧ W.cell? ⟨g, 2, none⟩ = some c2 ∧ W.cell? ⟨g, 3, none⟩ = some c3 ∧ W.cell? ⟨g, 4, none⟩ = some c4 :=
  ⟨h.cell 0, h.cell 1, h.cell 2, h.cell 3, h.cell 4⟩

set_option maxRecDepth 100000 in
set_option maxHeartbeats 4000000 in
theorem nothing_walk (a : Option Addr) (len cap : Nat) (f : Nat → Stp9) (w : World) (h : RowP w w.heap.size a len cap f) (hs : len + sumB f len ≤ 2000000) :
    Calls Try.prog 8 #[.slice a len cap] w fun e w' => e = .returned (.bool true) ∧ Fr0 w w' := by
  have HAW := Lib.hid (fun W => awake9 W)
  have hM := much_any w h (Nat.le_refl _) hs
  cases hb : muchB f len
  · rw [hb] at hM
    have hlen : len ≤ 200 := by unfold muchB at hb; simp at hb; omega
    have HM := Lib.hid hM
    have HR := Lib.hid h
    clear hM h hs hb
    go_enter Try.func8, Try.ntmps8
    go_wp2_with (go_at_call 24; refine HM.out.mono ?_; rintro e w1 ⟨rfl, hf1⟩; have HF1 := Lib.hid hf1; clear hf1)
    obtain ⟨w2, hw2⟩ : ∃ w2, (w1.alloc (.cells #[.slice none 0 0, .int .i64 0, .int .i64 0] 48)).alloc (.cells #[.pointer none, .pointer (some ⟨w1.heap.size, 0, none⟩)] 22) = w2 := ⟨_, rfl⟩
    have hb1 : Blk w2 (w1.heap.size + 1) 22 #[.pointer none, .pointer (some ⟨w1.heap.size, 0, none⟩)] := by
      have := Blk.new (w1.alloc (.cells #[.slice none 0 0, .int .i64 0, .int .i64 0] 48)) 22 #[.pointer none, .pointer (some ⟨w1.heap.size, 0, none⟩)]
      rw [hw2] at this
      simpa using this
    have hb2 : NoSp w2 (.pointer (some ⟨w1.heap.size, 0, none⟩)) := by
      rw [← hw2]
      exact .inr ⟨_, rfl, (Blk.new w1 _ _).alloc _⟩
    have hF2 : Fr0 w w2 := by rw [← hw2]; exact ((HF1.out.alloc _).alloc _)
    rw [hw2]
    have H1 := Lib.hid hb1
    have H2 := Lib.hid hb2
    have H3 := Lib.hid hF2
    clear hb1 hb2 hF2 hw2
    have hall : ∀ κ : Nat, κ < 2 → ∃ sv, ∀ W, Fr0 w2 W → W.cell? ⟨w1.heap.size + 1, κ, none⟩ = some sv ∧ NoSp W sv := fun κ hκ => by
      rcases (show κ = 0 ∨ κ = 1 by omega) with rfl | rfl
      · exact ⟨_, fun W hW => ⟨(H1.out.fr0 hW).cell 0, .inl rfl⟩⟩
      · exact ⟨_, fun W hW => ⟨(H1.out.fr0 hW).cell 1, H2.out.fr0 hW⟩⟩
    go_loopw [5] (fun k wr => ∃ κ : Nat, κ ≤ 2 ∧ k = .int .i64 κ ∧ Fr0 w2 wr) (fun k _ => 2 - (intOf k).toNat)
    case atStart => exact ⟨0, by omega, rfl, Fr.refl _ _⟩
    case round =>
      obtain ⟨κ, hκ, rfl, hfr⟩ := hrel
      have HF := Lib.hid (H3.out.trans hfr)
      by_cases hκ2 : κ < 2
      · obtain ⟨sv, hsv⟩ := hall κ hκ2
        have c0 := (hsv wr hfr).1
        have HNS := Lib.hid (fun W hW => (hsv W hW).2)
        have HFR := Lib.hid hfr
        have hκI : (κ : Int) < 2 := by omega
        clear hsv hall hfr
        go_wp2
        obtain ⟨wo, hwo⟩ : ∃ wo : World, wo = wr := ⟨_, rfl⟩
        rw [← hwo] at HF HFR ⊢
        clear hwo
        go_loopw [7] (fun i wr => ∃ j : Nat, j ≤ len ∧ i = .int .i64 j ∧ Fr0 w2 wr) (fun i _ => len - (intOf i).toNat)
        case atStart => exact ⟨0, by omega, rfl, HFR.out⟩
        case round =>
          obtain ⟨j, hj, rfl, hfr⟩ := hrel
          have HFI := Lib.hid hfr
          by_cases hlt : j < len
          · have hrow := HR.out.fr (H3.out.trans hfr) (Nat.le_refl _) (fun _ _ x => x)
            obtain ⟨b, off, rfl, hb, d0, d1, d2, d3, d4⟩ := hrow.at_ hlt
            have hok := HR.out.ok j hlt
            obtain ⟨sj, hsj⟩ : ∃ sj, f j = sj := ⟨_, rfl⟩
            rw [hsj] at d0 d1 d2 d3 d4 hok
            clear hsj
            obtain ⟨xk, xa, xv, xn, xb, xs⟩ := sj
            obtain ⟨ok0, ok1, ok2, ok3, ok4⟩ := hok
            dsimp only at d0 d1 d2 d3 d4 ok0 ok1 ok2 ok3 ok4
            obtain ⟨A4, cap4, rfl⟩ := ok4.len_
            generalize xs.length = m4 at *
            have hx0 := Blk.new wr 51 #[.int .i64 xk, .int .i64 xa, .int .i64 xv, .int .i64 xn, .slice A4 m4 cap4]
            have HX := Lib.hid hx0
            have HQ := Lib.hid (HFI.out.alloc (.cells #[.int .i64 xk, .int .i64 xa, .int .i64 xv, .int .i64 xn, .slice A4 m4 cap4] 51))
            clear hx0
            obtain ⟨T, hT⟩ : ∃ T, noT xn = T := ⟨_, rfl⟩
            have hTn : ((xn == 0) = true ∧ T = 0) ∨ ((xn == 0) = false ∧ T = -9) := by
              rw [← hT]
              unfold noT
              by_cases h0 : xn = 0
              · exact .inl ⟨by simp [h0], by rw [if_pos h0]⟩
              · exact .inr ⟨by simp [h0], by rw [if_neg h0]⟩
            have HT := Lib.hid hT
            clear hT
            have K1 := Lib.hid ok1
            have K2 := Lib.hid ok2
            have K3 := Lib.hid ok3
            clear hrow hfr ok0 ok1 ok2 ok3 ok4 c0
            have hltI : (j : Int) < (len : Int) := by omega
            rcases hTn with ⟨hz, rfl⟩ | ⟨hz, rfl⟩
            all_goals
              go_wp2_with (first | (go_at_call 14; refine (Fetch_none _ _ _ (HNS.out _ HQ.out) K1.out).mono ?_; rintro e wn ⟨rfl, hfn⟩; have HQ := Lib.hid (HQ.out.trans hfn); (try clear e0 e1 e2 e3 e4); have hxn := HX.out.fr0 hfn; have HX := Lib.hid hxn; obtain ⟨e0, e1, e2, e3, e4⟩ := cells5 hxn; clear hfn hxn) | (go_at_call 17; refine (Bytes_none _ _ _ _ (HNS.out _ HQ.out) K1.out K3.out).mono ?_; rw [HT.out]; rintro e wn ⟨rfl, hfn⟩; have HQ := Lib.hid (HQ.out.trans hfn); (try clear e0 e1 e2 e3 e4); have hxn := HX.out.fr0 hfn; have HX := Lib.hid hxn; obtain ⟨e0, e1, e2, e3, e4⟩ := cells5 hxn; clear hfn hxn) | (go_at_call 25; refine (Align_none _ _ _ (HNS.out _ HQ.out)).mono ?_; rintro e wn ⟨rfl, rfl⟩) | (go_at_call 26; refine (System_none _ _ _ _ (HNS.out _ HQ.out) K1.out).mono ?_; rintro e wn ⟨rfl, hfn⟩; have HQ := Lib.hid (HQ.out.trans hfn); (try clear e0 e1 e2 e3 e4); have hxn := HX.out.fr0 hfn; have HX := Lib.hid hxn; obtain ⟨e0, e1, e2, e3, e4⟩ := cells5 hxn; clear hfn hxn) | (go_at_call 12; refine (Store_none _ _ _ _ (HNS.out _ HQ.out) K1.out).mono ?_; rintro e wn ⟨rfl, hfn⟩; have HQ := Lib.hid (HQ.out.trans hfn); (try clear e0 e1 e2 e3 e4); have hxn := HX.out.fr0 hfn; have HX := Lib.hid hxn; obtain ⟨e0, e1, e2, e3, e4⟩ := cells5 hxn; clear hfn hxn) | (go_at_call 27; refine (Fill_none _ _ _ _ _ (HNS.out _ HQ.out) K1.out K3.out).mono ?_; rw [HT.out]; rintro e wn ⟨rfl, hfn⟩; have HQ := Lib.hid (HQ.out.trans hfn); (try clear e0 e1 e2 e3 e4); have hxn := HX.out.fr0 hfn; have HX := Lib.hid hxn; obtain ⟨e0, e1, e2, e3, e4⟩ := cells5 hxn; clear hfn hxn) | (go_at_call 21; refine (Move_none _ _ _ _ _ (HNS.out _ HQ.out) K1.out K2.out K3.out).mono ?_; rw [HT.out]; rintro e wn ⟨rfl, hfn⟩; have HQ := Lib.hid (HQ.out.trans hfn); (try clear e0 e1 e2 e3 e4); have hxn := HX.out.fr0 hfn; have HX := Lib.hid hxn; obtain ⟨e0, e1, e2, e3, e4⟩ := cells5 hxn; clear hfn hxn) | (go_at_call 18; refine (Allot_none _ _ _ (HNS.out _ HQ.out)).mono ?_; rintro e wn ⟨rfl, rfl⟩) | (go_at_call 28; refine (SetHere_none _ _ _ (HNS.out _ HQ.out)).mono ?_; rintro e wn ⟨rfl, rfl⟩) | (go_at_call 19; refine (Here_none _ _ (HNS.out _ HQ.out)).mono ?_; rintro e wn ⟨rfl, rfl⟩) | (go_at_call 20; refine (Unused_none _ _ (HNS.out _ HQ.out)).mono ?_; rintro e wn ⟨rfl, rfl⟩) | (go_at_call 29; refine (End_none _ _ (HNS.out _ HQ.out)).mono ?_; rintro e wn ⟨rfl, rfl⟩))
              exact ⟨⟨j + 1, by omega, by push_cast; rfl, HQ.out⟩, by simp [intOf]; omega⟩
          · obtain rfl : j = len := by omega
            clear hfr
            go_wp2
            exact ⟨⟨κ + 1, by omega, by push_cast; rfl, HFI.out⟩, by simp [intOf]; omega⟩
      · obtain rfl : κ = 2 := by omega
        clear hall hfr
        go_wp2_with (go_at_call 13; refine (HAW.out _).mono ?_; rintro e w3 ⟨rfl, hf3⟩)
        go_ret
        exact ⟨rfl, HF.out.trans hf3⟩
  · rw [hb] at hM
    have HM := Lib.hid hM
    clear hM h hs hb
    go_enter Try.func8, Try.ntmps8
    go_wp2_with (first | (go_at_call 24; refine HM.out.mono ?_; rintro e w1 ⟨rfl, hf1⟩) | (go_at_call 13; refine (HAW.out _).mono ?_; rintro e w2 ⟨rfl, hf2⟩))
    go_ret
    exact ⟨rfl, hf1.trans hf2⟩
end Go.Proofs.Ytkgihajpobajaaa
