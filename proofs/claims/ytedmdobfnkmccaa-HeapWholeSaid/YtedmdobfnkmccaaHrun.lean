/- The laws' own run: a script on both heaps. -/
import Derived.Test.YtedmdobfnkmccaaHplays
namespace Go.Proofs.Ytedmdobfnkmccaa
open Go Go.RowKit

set_option maxHeartbeats 4000000 in
theorem run_any (size : Int) (v : Value) (zs : List Stp) (w : World) (h0 : 0 ≤ size) (h1 : size ≤ 4096) (h8 : size % 8 = 0) (hv : RowS w w.heap.size v zs) (hl : zs.length ≤ 200) :
    Calls Try.prog 17 #[.int .i64 size, v] w fun e w' => ∃ rp sv L lv l, e = .returned (.tuple #[ptr (w.heap.size + 1), lv, .bool true]) ∧ St w' w.heap.size (w.heap.size + 1) w.heap.size rp sv 64 (64 + size) L lv l ∧ Fr0 w w' := by
  obtain ⟨A0, cap, rfl, hcap, hmax, hz, hcell⟩ := hv
  obtain ⟨N, hN⟩ : ∃ N, zs.length = N := ⟨_, rfl⟩
  rw [hN] at hcap hcell hl ⊢
  have hok : newOk 64 (64 + size) := by unfold newOk; omega
  have H1 := Lib.hid (New_ok 64 (64 + size) w hok (by omega))
  have H2 := Lib.hid (fun W => NewR_ok 64 (64 + size) W hok (by omega))
  have HZ := Lib.hid hz
  have HC := Lib.hid hcell
  clear hcell hz hok h8
  simp only [ptr] at H1 H2
  go_enter Try.func17, Try.ntmps17
  go_wp2_with (first | (go_at_call 9; refine H1.out.mono ?_; rintro e w1 ⟨rfl, hf1, L1, h1, e1⟩) | (go_at_call 10; refine (H2.out _).mono ?_; rintro e w2 ⟨rfl, hf2, sv2, h2⟩))
  have s1 : St w2 w.heap.size (w.heap.size + 1) w.heap.size w1.heap.size sv2 64 (64 + size) L1 (.slice none 0 0) [] :=
    ⟨h1.fr0 hf2, by rw [e1]; exact h2.mono hf1.size, World.ownsRow_nil _ _ _ _, by simp⟩
  have hF2 : Fr0 w w2 := hf1.trans hf2
  have HS1 := Lib.hid s1
  have HF2 := Lib.hid hF2
  clear s1 hF2 h1 h2 hf1 hf2 e1
  generalize w1.heap.size = rp at *
  go_loopw [11, 12, 13] (fun lv ok i wr => ok = .bool true ∧ ∃ (k : Nat) (sv : Value) (L : List Nd) (l : List Int), k ≤ N ∧ i = .int .i64 k ∧ l.length ≤ k ∧ St wr w.heap.size (w.heap.size + 1) w.heap.size rp sv 64 (64 + size) L lv l ∧ Fr0 w wr) (fun _ _ i _ => N - (intOf i).toNat)
  case atStart => exact ⟨rfl, 0, sv2, L1, [], by omega, rfl, by simp, HS1.out, HF2.out⟩
  case round =>
    obtain ⟨rfl, k, sv, L, l, hk, rfl, hl', hs, hfr⟩ := hrel
    by_cases hlt : k < N
    · obtain ⟨x, hx⟩ : ∃ x, zs[k]? = some x := ⟨zs[k]'(by omega), List.getElem?_eq_getElem (by omega)⟩
      obtain ⟨bb, off, rfl, hbb, hcs⟩ := HC.out (by omega)
      obtain ⟨c0, c1, c2, c3⟩ := hcs k x hx
      have hzx := HZ.out x (List.mem_of_getElem? hx)
      obtain ⟨x1, x2, x3, x4⟩ := x
      dsimp only at c0 c1 c2 c3 hzx
      have d0 := (hfr.cell (p := ⟨bb, off + k * 4, none⟩) hbb (fun x => x)).trans c0
      have d1 := (hfr.cell (p := ⟨bb, off + k * 4 + 1, none⟩) hbb (fun x => x)).trans c1
      have d2 := (hfr.cell (p := ⟨bb, off + k * 4 + 2, none⟩) hbb (fun x => x)).trans c2
      have d3 := (hfr.cell (p := ⟨bb, off + k * 4 + 3, none⟩) hbb (fun x => x)).trans c3
      have HD := Lib.hid (does_any wr hs x1 x2 x3 x4 hzx.2.1 hzx.2.2.1 (by omega) hfr.size)
      simp only [ptr] at HD
      have HFR := Lib.hid hfr
      have hkN : (k : Int) < (N : Int) := by omega
      clear c0 c1 c2 c3 hs hfr hx hzx hcs
      go_wp2_with (go_at_call 11; refine HD.out.mono ?_; rintro e wd ⟨sv', L', lv', l', rfl, hsd, hld, hfd⟩)
      have hFd : Fr0 w wd := HFR.out.then hfd (fun k hk e => by omega)
      exact ⟨⟨rfl, k + 1, _, L', l', by omega, by push_cast; rfl, by omega, hsd, hFd⟩, by simp [intOf]; omega⟩
    · obtain rfl : k = N := by omega
      have HFR := Lib.hid hfr
      have HSS := Lib.hid hs
      clear hs hfr
      go_wp2
      go_ret3
      exact ⟨rp, sv, L, _, l, rfl, HSS.out, HFR.out⟩
end Go.Proofs.Ytedmdobfnkmccaa
