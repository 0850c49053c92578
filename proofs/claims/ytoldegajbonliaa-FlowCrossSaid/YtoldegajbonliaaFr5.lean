/- Flow: the document's Do, refused. -/
import Derived.Test.YtoldegajbonliaaFr4
namespace Go.Proofs.Ytoldegajbonliaa
open Go Go.RowKit
set_option linter.unusedVariables false
attribute [local go_sem] Oper.semAt_some

section
variable {w w' : World} {B r p q cap : Nat} {tv tv' lv : Value} {ts ts' : List Tk} {xs : List RT} {T : Nat → Prop}
set_option maxRecDepth 100000 in
set_option maxHeartbeats 4000000 in
theorem doR_noword (n : Int) (hn : ∀ k : Int, 1 ≤ k → k ≤ 18 → (n == k) = false) (w : World) (h : RF w B r p xs lv ts q cap tv) : Calls Try.prog 28 #[.pointer (some ⟨r, 0, none⟩), .int .i64 n] w fun e w' => e = .returned (.int .i64 (-22)) ∧ Fr0 w w' := by
  have HN := Lib.hid (fun V => needs_not n hn V)
  obtain ⟨_, c1, _⟩ := h.cells
  clear h hn
  go_enter Try.func28, Try.ntmps28
  go_wp2_with (go_at_call 48; refine (HN.out _).mono ?_; rintro e w1 ⟨rfl, rfl⟩)
  go_ret
  exact ⟨rfl, Fr.refl _ _⟩
set_option maxRecDepth 100000 in
set_option maxHeartbeats 4000000 in
theorem doR_kind (n : Int) (K : List Int) (more : Int) (hn : Needs n K more) (hK : K.length ≤ 64) (w : World) (h : RF w B r p xs lv ts q cap tv) (hv : isV (RT.ks xs) K = false) : Calls Try.prog 28 #[.pointer (some ⟨r, 0, none⟩), .int .i64 n] w fun e w' => e = .returned (.int .i64 (-22)) ∧ Fr0 w w' := by
  have HN := Lib.hid (fun V => hn V)
  have HH := Lib.hid (fun V (hV : Fr0 w V) => h.fr0 hV)
  have HIS := Lib.hid (fun V kv (hV : Fr0 w V) (hk : Rd V kv K.length 1 (K.map (Value.int .i64))) => isk_r K kv V (h.fr0 hV) hk hK)
  rw [hv] at HIS
  obtain ⟨m, hm⟩ : ∃ m, K.length = m := ⟨_, rfl⟩
  clear h hn hv
  go_enter Try.func28, Try.ntmps28
  go_wp2_with (first | (go_at_call 48; refine (HN.out _).mono ?_; rintro e w1 ⟨kv, rfl, hf1, hk1⟩; have HK1 := Lib.hid hk1; have HF1 := Lib.hid hf1; have c1 := (HH.out _ hf1).cells.2.1; clear hk1 hf1) | (go_at_call 49; refine (HIS.out _ _ HF1.out HK1.out).mono ?_; rintro e w2 ⟨rfl, hf2⟩; have HF2 := Lib.hid hf2; clear hf2))
  go_ret
  exact ⟨rfl, HF1.out.trans HF2.out⟩
set_option maxRecDepth 100000 in
set_option maxHeartbeats 4000000 in
theorem doR_leave (w : World) (h : RF w B r p xs lv ts q cap tv) (hno : ∀ x ∈ xs, x.kind ≠ 3) : Calls Try.prog 28 #[.pointer (some ⟨r, 0, none⟩), .int .i64 14] w fun e w' => e = .returned (.int .i64 (-22)) ∧ Fr0 w w' := by
  have HN := Lib.hid (fun V => needs_14 V)
  have HH := Lib.hid (fun V (hV : Fr0 w V) => h.fr0 hV)
  have HIS := Lib.hid (fun V kv (hV : Fr0 w V) (hk : Rd V kv 0 1 ([].map (Value.int .i64))) => isk_r [] kv V (h.fr0 hV) hk (by decide))
  rw [show isV (RT.ks xs) [] = true from by unfold isV; simp] at HIS
  have HLA := Lib.hid (fun V (hV : Fr0 w V) => last_r V (h.fr0 hV))
  have HNO := Lib.hid hno
  clear h hno
  go_enter Try.func28, Try.ntmps28
  go_wp2_with (first | (go_at_call 48; refine (HN.out _).mono ?_; rintro e w1 ⟨kv, rfl, hf1, hk1⟩; have HK1 := Lib.hid hk1; have HF1 := Lib.hid hf1; have c1 := (HH.out _ hf1).cells.2.1; clear hk1 hf1) | (go_at_call 49; refine (HIS.out _ _ HF1.out HK1.out).mono ?_; rintro e w2 ⟨rfl, hf2⟩; have HF2 := Lib.hid (HF1.out.trans hf2); clear hf2) | (go_at_call 50; refine (HLA.out _ HF2.out).mono ?_; rintro e w3 ⟨i, rfl, hi, rfl⟩; obtain rfl : i = -1 := (by rcases hi with ⟨h1, _⟩ | ⟨pre, x, suf, h1, h2, _⟩; exact h1; exact absurd h2 (HNO.out x (by rw [h1]; simp))); clear hi))
  go_ret
  exact ⟨rfl, HF2.out⟩
set_option maxRecDepth 100000 in
set_option maxHeartbeats 4000000 in
theorem doR_over (n : Int) (K : List Int) (hn : Needs n K 1) (hK : K.length ≤ 64) (hn14 : (n == 14) = false) (w : World) (h : RF w B r p xs lv ts q cap tv) (hv : isV (RT.ks xs) K = true) (h64 : xs.length = 64) : Calls Try.prog 28 #[.pointer (some ⟨r, 0, none⟩), .int .i64 n] w fun e w' => e = .returned (.int .i64 (-52)) ∧ Fr0 w w' := by
  have HN := Lib.hid (fun V => hn V)
  have HH := Lib.hid (fun V (hV : Fr0 w V) => h.fr0 hV)
  have HIS := Lib.hid (fun V kv (hV : Fr0 w V) (hk : Rd V kv K.length 1 (K.map (Value.int .i64))) => isk_r K kv V (h.fr0 hV) hk hK)
  rw [hv] at HIS
  obtain ⟨m, hm⟩ : ∃ m, K.length = m := ⟨_, rfl⟩
  obtain ⟨A, c, rfl⟩ := h.form
  have H64 := Lib.hid h64
  clear h hn hv h64
  go_enter Try.func28, Try.ntmps28
  go_wp2_with (first | (go_at_call 48; refine (HN.out _).mono ?_; rintro e w1 ⟨kv, rfl, hf1, hk1⟩; have HK1 := Lib.hid hk1; have HF1 := Lib.hid hf1; have c1 := (HH.out _ hf1).cells.2.1; clear hk1 hf1) | (go_at_call 49; refine (HIS.out _ _ HF1.out HK1.out).mono ?_; rintro e w2 ⟨rfl, hf2⟩; have HF2 := Lib.hid (HF1.out.trans hf2); have c2 := (HH.out _ HF2.out).cells.2.2; rw [H64.out] at c2; clear hf2))
  go_ret
  exact ⟨rfl, HF2.out⟩
end
end Go.Proofs.Ytoldegajbonliaa
