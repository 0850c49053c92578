/- Flow: are all tokens the document's? -/
import Derived.Test.YtoldegajbonliaaFdoes
namespace Go.Proofs.Ytoldegajbonliaa
open Go Go.RowKit
set_option linter.unusedVariables false
attribute [local go_sem] Oper.semAt_some

section
variable {w w' : World} {B x p f q r : Nat} {ks ls : List Int} {ts : List Tk} {S R : Nat → Prop}
set_option maxRecDepth 100000 in
theorem Defs_p {q cap : Nat} {tv : Value} (w : World) (h : Pl PP w B p q cap tv ts) : Calls Try.prog 44 #[.pointer (some ⟨p, 0, none⟩)] w fun e w' => e = .returned (.int .i64 1) ∧ w = w' := by
  obtain ⟨c0, _, _⟩ := h.cells
  clear h
  go_enter Try.func44, Try.ntmps44
  go_wp2_with fail
  go_ret
  exact ⟨rfl, rfl⟩
set_option maxRecDepth 100000 in
set_option maxHeartbeats 8000000 in
theorem tokens1_any (w : World) (h : Bo w x p f q r (FlS B f p ks ts) (RFS B r q ls ts) S R) : Calls Try.prog 21 #[.pointer (some ⟨x, 0, none⟩)] w fun e w' => e = .returned (.bool true) ∧ Fr0 w w' := by
  obtain ⟨st, g, scap, q1, cap1, tv1, hfl, _, _⟩ := h.a
  obtain ⟨xs, lv, q2, cap2, tv2, hrf, _, _⟩ := h.c
  have HX := Lib.hid (fun V (hV : Fr0 w V) => h.tw.fr0 hV)
  have HPL := Lib.hid (fun V (hV : Fr0 w V) => hfl.pl.fr hV (fun _ _ h => h))
  have HRL := Lib.hid (fun V (hV : Fr0 w V) => hrf.pl.fr hV (fun _ _ h => h))
  have hfew := hfl.pl.few
  have x0 := h.tw.cell 0
  have x2 := h.tw.cell 2
  have r0 := hrf.pl.cells.1
  obtain ⟨A2, c2, rfl⟩ := hrf.pl.form
  obtain ⟨n, hn⟩ : ∃ n, ts.length = n := ⟨_, rfl⟩
  have HN := Lib.hid hn
  rw [hn] at hfew HRL
  have HLEN := Lib.hid (fun V (hV : Fr0 w V) => Len_p V (HPL.out V hV))
  have HDEF := Lib.hid (fun V (hV : Fr0 w V) => Defs_p V (HPL.out V hV))
  rw [hn] at HLEN
  have HAT := Lib.hid (fun V i (hV : Fr0 w V) => At_p i V (HPL.out V hV))
  clear h hfl hrf hn
  go_enter Try.func21, Try.ntmps21
  go_wp2_with fail
  go_quiet ((go_at_call 44; exact Calls.quiet_of_same ((HDEF.out _ ((Fr.refl _ _).drewN _)).mono fun e w' h => ⟨h.1, h.2.symm⟩)))
  have hz := (Fr.refl (fun _ => False) w).drewN nq
  obtain ⟨W1, hW1⟩ : ∃ W1, w.drewN nq = W1 := ⟨_, rfl⟩
  rw [hW1] at hz ⊢
  clear hW1 x0 x2 r0
  go_wp2_with fail
  go_loopw [3] (fun d wr => ∃ j : Nat, j ≤ 1 ∧ d = .int .i64 ((j : Int) + 1) ∧ Fr0 w wr) (fun d _ => 2 - (intOf d).toNat)
  case atStart => exact ⟨0, by omega, rfl, hz⟩
  case round =>
    obtain ⟨j, hj, rfl, hf⟩ := hrel
    have x0 := (HX.out _ hf).cell 0
    have x2 := (HX.out _ hf).cell 2
    have r0 := (HRL.out _ hf).cells.1
    have r2 := (HRL.out _ hf).cells.2.2
    have HF := Lib.hid hf
    clear hf
    obtain rfl | rfl : j = 0 ∨ j = 1 := by omega
    · rw [show (((0 : Nat) : Int) + 1) = 1 from rfl]
      go_wp2_with fail
      go_quiet ((go_at_call 17; exact Calls.quiet_of_same ((HLEN.out _ (HF.out.drewN _)).mono fun e w' h => ⟨h.1, h.2.symm⟩)))
      have hz2 := HF.out.drewN nq
      obtain ⟨W2, hW2⟩ : ∃ W2, wr.drewN nq = W2 := ⟨_, rfl⟩
      rw [hW2] at hz2 ⊢
      clear hW2 x0 x2 r0 r2
      go_wp2_with fail
      go_loopw [4] (fun i wq => ∃ j : Nat, j ≤ n ∧ i = .int .i64 j ∧ Fr0 w wq) (fun i _ => n - (intOf i).toNat)
      case atStart => exact ⟨0, by omega, rfl, hz2⟩
      case round =>
        obtain ⟨j, hj, rfl, hf⟩ := hrel
        have x0 := (HX.out _ hf).cell 0
        have x2 := (HX.out _ hf).cell 2
        have r0 := (HRL.out _ hf).cells.1
        have r2 := (HRL.out _ hf).cells.2.2
        have HF := Lib.hid hf
        by_cases hlt : j < n
        · have hltI : (j : Int) < (n : Int) := by omega
          have hj0 : (0 : Int) ≤ (j : Int) := by omega
          obtain ⟨y, hy⟩ : ∃ y, ts[j]? = some y := ⟨_, List.getElem?_eq_getElem (by rw [HN.out]; omega)⟩
          have hat : atT ts j = y := by unfold atT; rw [if_pos hj0, Int.toNat_natCast, hy]; rfl
          have hdc : decide (0 ≤ (j : Int) ∧ (j : Int) < (ts.length : Int)) = true := decide_eq_true (by rw [HN.out]; omega)
          have HA := Lib.hid (HAT.out wr (j : Int) hf)
          rw [hat, hdc] at HA
          unfold Tk.val at HA
          have HY := Lib.hid hy
          clear hat hdc hy hf
          go_wp2_with (go_at_call 18; refine HA.out.mono ?_; rintro e w3 ⟨rfl, hf3⟩; have HF3 := Lib.hid (HF.out.trans hf3); clear hf3)
          have hfa := HF3.out.alloc (.cells #[.int .i64 y.op, .int .i64 y.a, .int .i64 y.b] 39)
          have hbn := Blk.new w3 39 #[.int .i64 y.op, .int .i64 y.a, .int .i64 y.b]
          obtain ⟨W4, hW4⟩ : ∃ W4, w3.alloc (.cells #[.int .i64 y.op, .int .i64 y.a, .int .i64 y.b] 39) = W4 := ⟨_, rfl⟩
          obtain ⟨b4, hb4⟩ : ∃ b4, w3.heap.size = b4 := ⟨_, rfl⟩
          rw [hW4] at hfa hbn ⊢
          rw [hb4] at hbn ⊢
          clear x0 x2 r0 r2 hW4 hb4
          have x2 := (HX.out _ hfa).cell 2
          have r0 := (HRL.out _ hfa).cells.1
          have r2 := (HRL.out _ hfa).cells.2.2
          have z0 := hbn.cell 0
          have z1 := hbn.cell 1
          have z2 := hbn.cell 2
          obtain ⟨gg, cc, e, _, d0, d1, d2, _⟩ := tk_cells (HRL.out _ hfa).tr rfl HY.out
          injection e with e e2 e3
          subst e
          have HFA := Lib.hid hfa
          clear hfa hbn e2 e3
          go_quiet (fail)
          have HFB := Lib.hid (HFA.out.drewN nq)
          go_wp2_with fail
          go_roundw
          case rel => exact ⟨j + 1, by omega, by push_cast; rfl, HFB.out⟩
          case measure => first | omega | (simp [intOf]; omega)
        · obtain rfl : j = n := by omega
          go_wp2_with fail
          go_roundw
          case rel => exact ⟨1, by omega, rfl, HF.out⟩
          case measure => simp [intOf]
    · go_wp2_with fail
      go_ret
      exact ⟨rfl, HF.out⟩
end
end Go.Proofs.Ytoldegajbonliaa
