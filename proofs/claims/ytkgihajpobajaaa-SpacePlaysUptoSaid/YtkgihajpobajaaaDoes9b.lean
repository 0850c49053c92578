/- The laws' own small functions of chapter 9: does, at any step. -/
import Derived.Test.YtkgihajpobajaaaDoes9
namespace Go.Proofs.Ytkgihajpobajaaa
open Go Go.RowKit
set_option linter.unusedVariables false
section
variable {B : Nat} {w w1 w2 : World} {p g q g2 : Nat} {bs bs' : List Int} {dict here here' : Int}

set_option maxRecDepth 100000 in
set_option maxHeartbeats 4000000 in
theorem does_7 (w : World) (s : St9 B w p g q g2 bs dict here) (a v n : Int) (sv : Value) (xs : List Int) (ha : i64 a) (hv : i64 v) (hn : i64 n) (hb : Row8 w B sv xs) (hB : B ≤ w.heap.size) :
    Calls Try.prog 40 #[.pointer (some ⟨p, 0, none⟩), .pointer (some ⟨q, 0, none⟩), .agg #[.int .i64 7, .int .i64 a, .int .i64 v, .int .i64 n, sv]] w (After9 B p g q g2 dict w) := by
  obtain ⟨A4, c4, rfl⟩ := hb.len_
  obtain ⟨m4, hm4⟩ : ∃ m4, xs.length = m4 := ⟨_, rfl⟩
  have hx0 : Blk (w.alloc (.cells #[.int .i64 7, .int .i64 a, .int .i64 v, .int .i64 n, .slice A4 m4 c4] 51)) w.heap.size 51 #[.int .i64 7, .int .i64 a, .int .i64 v, .int .i64 n, .slice A4 m4 c4] := Blk.new w _ _
  have hf0 : Fr0 w (w.alloc (.cells #[.int .i64 7, .int .i64 a, .int .i64 v, .int .i64 n, .slice A4 m4 c4] 51)) := (Fr.refl _ w).alloc _
  have s0 := s.fr0 hf0
  rw [hm4] at *
  have hcb := bytesV_bytes s0.sp.byt a n
  have hcl : (bytesV bs a n).length ≤ 9223372036854775807 := by
    unfold bytesV
    have := s0.sp.len
    split
    · simp; omega
    · simp
  have H1 := Lib.hid (Bytes_any a n _ s0.sp ha hn)
  have H2 := Lib.hid (fun W (hW : RSp W q g2 bs here (77824 + dict)) => BytesR a n W hW ha hn)
  have HX := Lib.hid hx0
  have HS := Lib.hid s0
  have HF := Lib.hid hf0
  have HCB := Lib.hid hcb
  obtain ⟨d0, d1, d2, d3, d4⟩ := cells5 hx0
  clear hx0 s0 s hf0 hb hB hm4 ha hv hn hcb
  generalize bytesV bs a n = cs at *
  generalize reachT bs.length a n 0 = T at *
  go_enter Try.func40, Try.ntmps40
  go_wp2_with (first | (go_at_call 17; refine H1.out.mono ?_; rintro e w1 ⟨_, rfl, u1, rfl, hou1, hf1⟩; obtain ⟨e0, e1, e2, e3, e4⟩ := cells5 (HX.out.fr0 hf1)) | (go_at_call 54; refine (H2.out _ (HS.out.rs.fr0 hf1)).mono ?_; rintro e w2 ⟨_, rfl, u2, rfl, hou2, hf2⟩) | (go_at_call 16; refine (same_any _ _ _ _ _ cs cs (((hou1.row HCB.out hcl).fr hf2 (Nat.le_refl _) (fun _ _ x => x))) (hou2.row HCB.out hcl)).mono ?_; rintro e w3 ⟨rfl, rfl⟩))
  go_ret
  refine ⟨by simp, ?_, _, _, HS.out.fr0 (hf1.trans hf2)⟩
  exact ((HF.out.trans hf1).trans hf2).of0

set_option maxRecDepth 100000 in
set_option maxHeartbeats 2000000 in
theorem does_other (w : World) (s : St9 B w p g q g2 bs dict here) (kd a v n : Int) (sv : Value) (xs : List Int) (hb : Row8 w B sv xs) (hk : ∀ j : Int, 1 ≤ j → j ≤ 16 → kd ≠ j) :
    Calls Try.prog 40 #[.pointer (some ⟨p, 0, none⟩), .pointer (some ⟨q, 0, none⟩), .agg #[.int .i64 kd, .int .i64 a, .int .i64 v, .int .i64 n, sv]] w (After9 B p g q g2 dict w) := by
  obtain ⟨A4, c4, rfl⟩ := hb.len_
  have HS := Lib.hid s
  have k1 : (kd == 1) = false := by simp [hk 1 (by omega) (by omega)]
  have k2 : (kd == 2) = false := by simp [hk 2 (by omega) (by omega)]
  have k3 : (kd == 3) = false := by simp [hk 3 (by omega) (by omega)]
  have k4 : (kd == 4) = false := by simp [hk 4 (by omega) (by omega)]
  have k5 : (kd == 5) = false := by simp [hk 5 (by omega) (by omega)]
  have k6 : (kd == 6) = false := by simp [hk 6 (by omega) (by omega)]
  have k7 : (kd == 7) = false := by simp [hk 7 (by omega) (by omega)]
  have k8 : (kd == 8) = false := by simp [hk 8 (by omega) (by omega)]
  have k9 : (kd == 9) = false := by simp [hk 9 (by omega) (by omega)]
  have k10 : (kd == 10) = false := by simp [hk 10 (by omega) (by omega)]
  have k11 : (kd == 11) = false := by simp [hk 11 (by omega) (by omega)]
  have k12 : (kd == 12) = false := by simp [hk 12 (by omega) (by omega)]
  have k13 : (kd == 13) = false := by simp [hk 13 (by omega) (by omega)]
  have k14 : (kd == 14) = false := by simp [hk 14 (by omega) (by omega)]
  have k15 : (kd == 15) = false := by simp [hk 15 (by omega) (by omega)]
  have k16 : (kd == 16) = false := by simp [hk 16 (by omega) (by omega)]
  clear s hb hk
  go_enter Try.func40, Try.ntmps40
  go_wp2
  go_ret
  exact ⟨rfl, (Fr.refl _ w).alloc _, _, _, HS.out.fr0 ((Fr.refl _ w).alloc _)⟩

theorem does_any (w : World) (s : St9 B w p g q g2 bs dict here) (x : Stp9) (hx : x.Ok w B) (hB : B ≤ w.heap.size) :
    Calls Try.prog 40 #[.pointer (some ⟨p, 0, none⟩), .pointer (some ⟨q, 0, none⟩), x.val] w (After9 B p g q g2 dict w) := by
  obtain ⟨kd, a, v, n, sv, xs⟩ := x
  obtain ⟨h1, h2, h3, h4, h5⟩ := hx
  unfold Stp9.val
  dsimp only at *
  by_cases hk : 1 ≤ kd ∧ kd ≤ 16
  · rcases (show kd = 1 ∨ kd = 2 ∨ kd = 3 ∨ kd = 4 ∨ kd = 5 ∨ kd = 6 ∨ kd = 7 ∨ kd = 8 ∨ kd = 9 ∨ kd = 10 ∨ kd = 11 ∨ kd = 12 ∨ kd = 13 ∨ kd = 14 ∨ kd = 15 ∨ kd = 16 by omega) with rfl | rfl | rfl | rfl | rfl | rfl | rfl | rfl | rfl | rfl | rfl | rfl | rfl | rfl | rfl | rfl
    · exact does_1 w s a v n sv xs h2 h3 h4 h5 hB
    · exact does_2 w s a v n sv xs h2 h3 h4 h5 hB
    · exact does_3 w s a v n sv xs h2 h3 h4 h5 hB
    · exact does_4 w s a v n sv xs h2 h3 h4 h5 hB
    · exact does_5 w s a v n sv xs h2 h3 h4 h5 hB
    · exact does_6 w s a v n sv xs h2 h3 h4 h5 hB
    · exact does_7 w s a v n sv xs h2 h3 h4 h5 hB
    · exact does_8 w s a v n sv xs h2 h3 h4 h5 hB
    · exact does_9 w s a v n sv xs h2 h3 h4 h5 hB
    · exact does_10 w s a v n sv xs h2 h3 h4 h5 hB
    · exact does_11 w s a v n sv xs h2 h3 h4 h5 hB
    · exact does_12 w s a v n sv xs h2 h3 h4 h5 hB
    · exact does_13 w s a v n sv xs h2 h3 h4 h5 hB
    · exact does_14 w s a v n sv xs h2 h3 h4 h5 hB
    · exact does_15 w s a v n sv xs h2 h3 h4 h5 hB
    · exact does_16 w s a v n sv xs h2 h3 h4 h5 hB
  · exact does_other w s kd a v n sv xs h5 (fun j h1 h2 e => hk ⟨by omega, by omega⟩)
end
end Go.Proofs.Ytkgihajpobajaaa
