/- The walk of SpacePlays. -/
import Derived.Test.YtkgihajpobajaaaPlays9
namespace Go.Proofs.Ytkgihajpobajaaa
open Go Go.RowKit
set_option linter.unusedVariables false

set_option maxRecDepth 100000 in
set_option maxHeartbeats 4000000 in
theorem plays_ok (dict heap : Int) (a : Option Addr) (len cap : Nat) (f : Nat → Stp9) (w : World) (hok : newOk dict heap) (h : RowP w w.heap.size a len cap f) (hlen : len ≤ 200) :
    Calls Try.prog 30 #[.int .i64 dict, .int .i64 heap, .slice a len cap] w fun e w' => ∃ u v, e = .returned (.tuple #[u, v, .bool true]) ∧ Fr0 w w' := by
  have hdict : 0 ≤ dict ∧ dict ≤ 524288 := ⟨by have := hok.1; omega, hok.2.1⟩
  have H1 := Lib.hid (New_ok dict heap w hok)
  have H2 := Lib.hid (fun W => NewRS_ok dict heap W hok)
  have HR := Lib.hid h
  have HD := Lib.hid hdict
  clear h hok hdict
  go_enter Try.func30, Try.ntmps30
  go_wp2_with (first | (go_at_call 10; refine H1.out.mono ?_; rintro e w1 ⟨rfl, hf1, hz1, h1⟩; have HZ1 := Lib.hid hz1; clear hz1) | (go_at_call 39; refine (H2.out _).mono ?_; rintro e w2 ⟨rfl, hf2, h2⟩))
  have s1 : St9 w.heap.size w2 (w.heap.size + 1) w.heap.size (w1.heap.size + 1) w1.heap.size (noughts (12288 + dict + heap).toNat) dict 77824 :=
    ⟨h1.fr0 hf2, h2, by have := HZ1.out; omega, ⟨by omega, by have := HZ1.out; omega, by omega, by have := HZ1.out; omega⟩, HD.out.1, HD.out.2, by omega, by have := HD.out.1; omega⟩
  have HS1 := Lib.hid s1
  have HF2 := Lib.hid (hf1.trans hf2)
  clear s1 h1 h2 hf1 hf2 HZ1
  generalize noughts (12288 + dict + heap).toNat = bs0 at *
  generalize w1.heap.size = r at *
  go_loopw [13] (fun i wr => ∃ (k : Nat) (bs : List Int) (here : Int), k ≤ len ∧ i = .int .i64 k ∧ St9 w.heap.size wr (w.heap.size + 1) w.heap.size (r + 1) r bs dict here ∧ Fr0 w wr) (fun i _ => len - (intOf i).toNat)
  case atStart => exact ⟨0, bs0, 77824, by omega, rfl, HS1.out, HF2.out⟩
  case round =>
    obtain ⟨k, bs, here, hk, rfl, hs, hfr⟩ := hrel
    by_cases hlt : k < len
    · have hrow := HR.out.fr hfr (Nat.le_refl _) (fun _ _ x => x)
      obtain ⟨b, off, rfl, hb, d0, d1, d2, d3, d4⟩ := hrow.at_ hlt
      have hokk := hrow.ok k hlt
      obtain ⟨sj, hsj⟩ : ∃ sj, f k = sj := ⟨_, rfl⟩
      rw [hsj] at d0 d1 d2 d3 d4 hokk
      clear hsj
      obtain ⟨xk, xa, xv, xn, xb, xs⟩ := sj
      dsimp only at d0 d1 d2 d3 d4
      have hDo := does_any wr hs ⟨xk, xa, xv, xn, xb, xs⟩ hokk hfr.size
      have HDo := Lib.hid hDo
      have HFR := Lib.hid hfr
      have HS := Lib.hid hs
      have hltI : (k : Int) < (len : Int) := by omega
      unfold Stp9.val at HDo
      clear hrow hDo hs hfr hokk
      go_wp2_with (go_at_call 40; (with_reducible refine HDo.out.mono ?_); rintro e w3 ⟨rfl, hf3, bs', here', hs'⟩)
      refine ⟨⟨k + 1, bs', here', by omega, by push_cast; rfl, hs', HFR.out.then hf3 (fun j hj e => ?_)⟩, by simp [intOf]; omega⟩
      have := (in4_hi HS.out e).1
      omega
    · obtain rfl : k = len := by omega
      have HA := Lib.hid (alike_any wr hs)
      have HFR := Lib.hid hfr
      clear hs hfr
      go_wp2_with (go_at_call 41; refine HA.out.mono ?_; rintro e w3 ⟨rfl, hf3⟩)
      refine bodyPost_ret (results_tmp3' rfl _ _ _) rfl ?_
      exact ⟨_, _, rfl, HFR.out.trans hf3⟩

set_option maxHeartbeats 1000000 in
theorem plays_err (dict heap : Int) (sv : Value) (w : World) (hok : ¬ newOk dict heap) (hd : i64 dict) (hh : i64 heap) :
    Calls Try.prog 30 #[.int .i64 dict, .int .i64 heap, sv] w fun e w' => ∃ u v, e = .returned (.tuple #[u, v, .bool true]) ∧ Fr0 w w' := by
  have H1 := Lib.hid (New_err dict heap w hok)
  have H2 := Lib.hid (NewRS_err dict heap w hok hd hh)
  clear hok hd hh
  go_enter Try.func30, Try.ntmps30
  go_wp2_with (first | (go_at_call 10; refine H1.out.mono ?_; rintro e w1 ⟨rfl, rfl⟩) | (go_at_call 39; refine H2.out.mono ?_; rintro e w2 ⟨rfl, rfl⟩))
  refine bodyPost_ret (results_tmp3' rfl _ _ _) rfl ?_
  exact ⟨_, _, rfl, Fr.refl _ _⟩

set_option maxHeartbeats 1000000 in
theorem plays_walk (dict heap : Int) (a : Option Addr) (len cap : Nat) (f : Nat → Stp9) (w : World) (hd : i64 dict) (hh : i64 heap) (h : RowP w w.heap.size a len cap f) (hs : len + sumB f len ≤ 2000000) :
    Calls Try.prog 9 #[.int .i64 dict, .int .i64 heap, .slice a len cap] w fun e w' => e = .returned (.bool true) ∧ Fr0 w w' := by
  have HAW := Lib.hid (fun W => awake9 W)
  have hM := much_any w h (Nat.le_refl _) hs
  cases hb : muchB f len
  · rw [hb] at hM
    have hlen : len ≤ 200 := by unfold muchB at hb; simp at hb; omega
    have hP : ∀ W, Fr0 w W → Calls Try.prog 30 #[.int .i64 dict, .int .i64 heap, .slice a len cap] W fun e w' => ∃ u v, e = .returned (.tuple #[u, v, .bool true]) ∧ Fr0 W w' := fun W hW => by
      by_cases hok : newOk dict heap
      · have h1 := h.fr hW (Nat.le_refl _) (fun _ _ x => x)
        refine plays_ok dict heap a len cap f W hok ⟨h1.le, h1.cap, fun i hi => ?_, fun h0 => ?_⟩ hlen
        · obtain ⟨k1, k2, k3, k4, k5⟩ := h1.ok i hi
          exact ⟨k1, k2, k3, k4, k5.more hW.size⟩
        · obtain ⟨b, off, e, hb, hc⟩ := h1.lies h0
          exact ⟨b, off, e, Nat.lt_of_lt_of_le hb hW.size, hc⟩
      · exact plays_err dict heap _ W hok hd hh
    have HM := Lib.hid hM
    have HP := Lib.hid hP
    clear hM h hs hb hP
    go_enter Try.func9, Try.ntmps9
    go_wp2_with (first | (go_at_call 24; refine HM.out.mono ?_; rintro e w1 ⟨rfl, hf1⟩) | (go_at_call 30; refine (HP.out _ hf1).mono ?_; rintro e w2 ⟨u, v, rfl, hf2⟩) | (go_at_call 13; refine (HAW.out _).mono ?_; rintro e w3 ⟨rfl, hf3⟩))
    go_ret
    exact ⟨rfl, (hf1.trans hf2).trans hf3⟩
  · rw [hb] at hM
    have HM := Lib.hid hM
    clear hM h hs hb
    go_enter Try.func9, Try.ntmps9
    go_wp2_with (first | (go_at_call 24; refine HM.out.mono ?_; rintro e w1 ⟨rfl, hf1⟩) | (go_at_call 13; refine (HAW.out _).mono ?_; rintro e w2 ⟨rfl, hf2⟩))
    go_ret
    exact ⟨rfl, hf1.trans hf2⟩
end Go.Proofs.Ytkgihajpobajaaa
