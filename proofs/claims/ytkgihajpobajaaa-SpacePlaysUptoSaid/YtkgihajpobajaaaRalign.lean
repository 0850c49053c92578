/- Both data spaces: Align; the document's Allot, SetHere. -/
import Derived.Test.YtkgihajpobajaaaRmove
import Derived.IntWalk
namespace Go.Proofs.Ytkgihajpobajaaa
open Go Go.RowKit

theorem andNot_nat (k x : Nat) (hk : k ≤ 64) (hx : x < 2 ^ 64) : x &&& ((2 ^ (64 - k) - 1) <<< k) = x / 2 ^ k * 2 ^ k := by
  have e1 : x / 2 ^ k * 2 ^ k = (x >>> k) <<< k := by rw [Nat.shiftRight_eq_div_pow, Nat.shiftLeft_eq]
  rw [e1]
  apply Nat.eq_of_testBit_eq
  intro i
  rw [Nat.testBit_and, Nat.testBit_shiftLeft, Nat.testBit_shiftLeft, Nat.testBit_shiftRight, Nat.testBit_two_pow_sub_one]
  by_cases hi : k ≤ i
  · rw [show k + (i - k) = i by omega]
    by_cases h2 : i - k < 64 - k
    · simp [hi, h2]
    · have : x.testBit i = false := Nat.testBit_lt_two_pow (Nat.lt_of_lt_of_le hx (Nat.pow_le_pow_right (by omega) (by omega)))
      simp [this]
  · simp [hi]
theorem andNot_any (k : Nat) (m : Int) (x : Int) (h0 : 0 ≤ x) (h1 : x < 9223372036854775808) (hk : k ≤ 64) (hm : (2 : Nat) ^ 64 - 1 - (BitVec.ofInt 64 m).toNat = (2 ^ (64 - k) - 1) <<< k) : bits .andNot .i64 x m = x / (2 ^ k : Nat) * (2 ^ k : Nat) := by
  obtain ⟨a, rfl⟩ := Int.eq_ofNat_of_zero_le h0
  show IntKind.i64.wrap ((BitVec.ofInt 64 (a : Int) &&& ~~~BitVec.ofInt 64 m).toNat : Int) = _
  have e1 : (BitVec.ofInt 64 (a : Int)).toNat = a := by
    rw [BitVec.ofInt_natCast, BitVec.toNat_ofNat]; exact Nat.mod_eq_of_lt (by omega)
  rw [BitVec.toNat_and, BitVec.toNat_not, e1, hm, andNot_nat k a hk (by omega)]
  have hle : a / 2 ^ k * 2 ^ k ≤ a := Nat.div_mul_le_self _ _
  have e3 : ((a / 2 ^ k * 2 ^ k : Nat) : Int) = (a : Int) / (2 ^ k : Nat) * (2 ^ k : Nat) := by
    rw [Int.natCast_mul, Int.natCast_ediv]
  rw [← e3]
  generalize a / 2 ^ k * 2 ^ k = b at *
  simp [IntKind.wrap, IntKind.bits, IntKind.signed]
  omega
theorem andNot3 (x : Int) (h0 : 0 ≤ x) (h1 : x < 9223372036854775808) : bits .andNot .i64 x 3 = x / 4 * 4 := andNot_any 2 3 x h0 h1 (by omega) (by decide)
theorem andNot7 (x : Int) (h0 : 0 ≤ x) (h1 : x < 9223372036854775808) : bits .andNot .i64 x 7 = x / 8 * 8 := andNot_any 3 7 x h0 h1 (by omega) (by decide)
theorem andNot15 (x : Int) (h0 : 0 ≤ x) (h1 : x < 9223372036854775808) : bits .andNot .i64 x 15 = x / 16 * 16 := andNot_any 4 15 x h0 h1 (by omega) (by decide)

/-- HERE behind Align. -/
def algH (here n last : Int) : Int := if n = 4 ∨ n = 8 ∨ n = 16 then (if last < (here + n - 1) / n * n then last else (here + n - 1) / n * n) else here

section
variable {p g : Nat} {bs : List Int} {dict here last : Int}
set_option maxHeartbeats 2000000 in
theorem Align_any (n : Int) (w : World) (h : Sp w p g bs dict here) (hd : 0 ≤ dict) (hd' : dict ≤ 524288) (hh : 77824 ≤ here) (hh' : here ≤ 77824 + dict) :
    Calls Try.prog 25 #[.pointer (some ⟨p, 0, none⟩), .int .i64 n] w fun e w' => e = .returned (.tuple #[]) ∧ Fr1 p w w' ∧ Sp w' p g bs dict (algH here n (77824 + dict)) := by
  have h1 := h.obj.cell 1
  have h2 := h.obj.cell 2
  have f2 := h.obj.frozen 2
  simp at h1 h2
  have HN := Lib.hid (none_any w h (by omega))
  have HH := Lib.hid h
  clear h
  by_cases hn : n = 4 ∨ n = 8 ∨ n = 16
  · have e : algH here n (77824 + dict) = if 77824 + dict < (here + n - 1) / n * n then 77824 + dict else (here + n - 1) / n * n := by unfold algH; rw [if_pos hn]
    rw [e]
    clear e
    rcases hn with rfl | rfl | rfl
    · have ha := andNot3 (here + 4 - 1) (by omega) (by omega)
      obtain ⟨A, hA⟩ : ∃ A, bits .andNot .i64 (here + 4 - 1) 3 = A := ⟨_, rfl⟩
      rw [hA] at ha
      rw [← ha]
      clear ha
      go_enter Try.func25, Try.ntmps25
      go_wp2_with (go_at_call 36; refine HN.out.mono ?_; rintro e w' ⟨rfl, rfl⟩)
      go_region
      go_wp2
      all_goals go_end0
      all_goals exact ⟨rfl, ((Fr.refl (fun k => k = p) w).setCell (p := ⟨p, 2, none⟩) (.inl rfl) _).drew, (HH.out.here _).drewN 1⟩
    · have ha := andNot7 (here + 8 - 1) (by omega) (by omega)
      obtain ⟨A, hA⟩ : ∃ A, bits .andNot .i64 (here + 8 - 1) 7 = A := ⟨_, rfl⟩
      rw [hA] at ha
      rw [← ha]
      clear ha
      go_enter Try.func25, Try.ntmps25
      go_wp2_with (go_at_call 36; refine HN.out.mono ?_; rintro e w' ⟨rfl, rfl⟩)
      go_region
      go_wp2
      all_goals go_end0
      all_goals exact ⟨rfl, ((Fr.refl (fun k => k = p) w).setCell (p := ⟨p, 2, none⟩) (.inl rfl) _).drew, (HH.out.here _).drewN 1⟩
    · have ha := andNot15 (here + 16 - 1) (by omega) (by omega)
      obtain ⟨A, hA⟩ : ∃ A, bits .andNot .i64 (here + 16 - 1) 15 = A := ⟨_, rfl⟩
      rw [hA] at ha
      rw [← ha]
      clear ha
      go_enter Try.func25, Try.ntmps25
      go_wp2_with (go_at_call 36; refine HN.out.mono ?_; rintro e w' ⟨rfl, rfl⟩)
      go_region
      go_wp2
      all_goals go_end0
      all_goals exact ⟨rfl, ((Fr.refl (fun k => k = p) w).setCell (p := ⟨p, 2, none⟩) (.inl rfl) _).drew, (HH.out.here _).drewN 1⟩
  · have e : algH here n (77824 + dict) = here := by unfold algH; rw [if_neg hn]
    rw [e]
    have n4 : (n == 4) = false := by simp; omega
    have n8 : (n == 8) = false := by simp; omega
    have n16 : (n == 16) = false := by simp; omega
    clear e hn
    go_enter Try.func25, Try.ntmps25
    go_wp2_with (go_at_call 36; refine HN.out.mono ?_; rintro e w' ⟨rfl, rfl⟩)
    go_end0
    exact ⟨rfl, Fr.refl _ _, HH.out⟩

set_option maxHeartbeats 2000000 in
theorem AlignR (n : Int) (w : World) (h : RSp w p g bs here last) (hh : 77824 ≤ here) (hh' : here ≤ last) (hl : last ≤ 1000000) :
    Calls Try.prog 62 #[.pointer (some ⟨p, 0, none⟩), .int .i64 n] w fun e w' => e = .returned (.tuple #[]) ∧ Fr1 p w w' ∧ RSp w' p g bs (algH here n last) last := by
  have h1 := h.obj.cell 1
  have h2 := h.obj.cell 2
  have f1 := h.obj.frozen 1
  simp at h1 h2
  have HH := Lib.hid h
  clear h
  by_cases hn : n = 4 ∨ n = 8 ∨ n = 16
  · have e : algH here n last = if last < (here + n - 1) / n * n then last else (here + n - 1) / n * n := by unfold algH; rw [if_pos hn]
    rw [e]
    clear e
    by_cases hlt : last < (here + n - 1) / n * n
    · rw [if_pos hlt]
      rcases hn with rfl | rfl | rfl
      all_goals
        go_enter Try.func62, Try.ntmps62
        go_wp2
        go_end0
        exact ⟨rfl, (Fr.refl (fun k => k = p) w).setCell (p := ⟨p, 1, none⟩) (.inl rfl) _, HH.out.toHere _⟩
    · rw [if_neg hlt]
      have hle : (here + n - 1) / n * n ≤ last := by omega
      clear hlt
      rcases hn with rfl | rfl | rfl
      all_goals
        go_enter Try.func62, Try.ntmps62
        go_wp2
        go_end0
        exact ⟨rfl, (Fr.refl (fun k => k = p) w).setCell (p := ⟨p, 1, none⟩) (.inl rfl) _, HH.out.toHere _⟩
  · have e : algH here n last = here := by unfold algH; rw [if_neg hn]
    rw [e]
    have n4 : (n != 4) = true := by simp; omega
    have n8 : (n != 8) = true := by simp; omega
    have n16 : (n != 16) = true := by simp; omega
    clear e hn
    go_enter Try.func62, Try.ntmps62
    go_wp2
    refine bodyPost_ret (results_none rfl _ _ _) rfl ?_
    exact ⟨rfl, Fr.refl _ _, HH.out⟩

set_option maxHeartbeats 1000000 in
theorem SetHereR (a : Int) (w : World) (h : RSp w p g bs here last) (ha : i64 a) (hl : last = 77824 + dict) :
    Calls Try.prog 61 #[.pointer (some ⟨p, 0, none⟩), .int .i64 a] w fun e w' => e = .returned (.int .i64 (shT dict a)) ∧ Fr1 p w w' ∧ RSp w' p g bs (shH dict here a) last := by
  subst hl
  have h2 := h.obj.cell 2
  have h1 := h.obj.cell 1
  have f1 := h.obj.frozen 1
  simp at h1 h2
  have HH := Lib.hid h
  unfold shT shH
  obtain ⟨ha1, ha2⟩ := ha
  clear h
  by_cases k1 : a < 77824
  · rw [if_pos (.inl k1), if_pos (.inl k1)]
    go_enter Try.func61, Try.ntmps61
    go_wp2
    go_ret
    exact ⟨rfl, Fr.refl _ _, HH.out⟩
  · by_cases k2 : 77824 + dict < a
    · rw [if_pos (.inr k2), if_pos (.inr k2)]
      go_enter Try.func61, Try.ntmps61
      go_wp2
      go_ret
      exact ⟨rfl, Fr.refl _ _, HH.out⟩
    · rw [if_neg (by omega), if_neg (by omega)]
      go_enter Try.func61, Try.ntmps61
      go_wp2
      go_ret
      exact ⟨rfl, (Fr.refl (fun k => k = p) w).setCell (p := ⟨p, 1, none⟩) (.inl rfl) _, HH.out.toHere _⟩

set_option maxHeartbeats 1000000 in
theorem AllotR (n : Int) (w : World) (h : RSp w p g bs here last) (hd : 0 ≤ dict) (hd' : dict ≤ 1000000) (hl : last = 77824 + dict) (hh : 77824 ≤ here) (hh' : here ≤ last) :
    Calls Try.prog 60 #[.pointer (some ⟨p, 0, none⟩), .int .i64 n] w fun e w' => e = .returned (.int .i64 (alT dict here n)) ∧ Fr1 p w w' ∧ RSp w' p g bs (alH dict here n) last := by
  subst hl
  have h2 := h.obj.cell 2
  have h1 := h.obj.cell 1
  have f1 := h.obj.frozen 1
  simp at h1 h2
  have HH := Lib.hid h
  unfold alT alH
  clear h
  by_cases k1 : 77824 + dict - here < n
  · rw [if_pos (.inl k1), if_pos (.inl k1)]
    have q1 : decide (77824 + dict - here < n) = true := by simp; omega
    have e1 : IntKind.i64.wrap (77824 + dict - here) = 77824 + dict - here := IntWalk.i64_in _ (by omega)
    go_enter Try.func60, Try.ntmps60
    go_wp2
    go_quiet (fail)
    go_wp2
    go_ret
    exact ⟨rfl, (Fr.refl _ _).drewN _, HH.out.drewN _⟩
  · have q1 : decide (77824 + dict - here < n) = false := by simp; omega
    have e1 : IntKind.i64.wrap (77824 + dict - here) = 77824 + dict - here := IntWalk.i64_in _ (by omega)
    have e2 : IntKind.i64.wrap (77824 - here) = 77824 - here := IntWalk.i64_in _ (by omega)
    by_cases k2 : n < 77824 - here
    · rw [if_pos (.inr k2), if_pos (.inr k2)]
      have q2 : decide (n < 77824 - here) = true := by simp; omega
      go_enter Try.func60, Try.ntmps60
      go_wp2
      go_quiet (fail)
      go_wp2
      go_ret
      exact ⟨rfl, (Fr.refl _ _).drewN _, HH.out.drewN _⟩
    · rw [if_neg (by omega), if_neg (by omega)]
      have q2 : decide (n < 77824 - here) = false := by simp; omega
      have b1 : n ≤ 77824 + dict - here := by omega
      have b2 : 77824 - here ≤ n := by omega
      have e3 : IntKind.i64.wrap (here + n) = here + n := IntWalk.i64_in _ (by omega)
      go_enter Try.func60, Try.ntmps60
      go_wp2
      go_quiet (fail)
      go_wp2
      go_ret
      exact ⟨rfl, ((Fr.refl (fun k => k = p) _).drewN _).setCell (p := ⟨p, 1, none⟩) (.inl rfl) _, (HH.out.drewN _).toHere _⟩
end
end Go.Proofs.Ytkgihajpobajaaa
