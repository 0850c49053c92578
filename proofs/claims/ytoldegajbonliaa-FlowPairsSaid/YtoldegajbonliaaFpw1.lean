/- Flow: pairs done by the program. -/
import Derived.Test.YtoldegajbonliaaFppG
import Derived.Test.YtoldegajbonliaaFargs
import Derived.Test.YtoldegajbonliaaFidle
namespace Go.Proofs.Ytoldegajbonliaa
open Go Go.RowKit
set_option linter.unusedVariables false
attribute [local go_sem] Oper.semAt_some

/-- The program's flow: its kinds; its jumps lead to places. -/
def PrS (B f p : Nat) (ks : List Int) (N : Nat) (w : World) (S : Nat → Prop) : Prop := ∃ st g scap ts q cap tv, Fl w B f p st g scap ts q cap tv ∧ st.map Th.kind = ks ∧ Good st ts ∧ ts.length ≤ N ∧ S = FlIn f p q tv g st
section
variable {w w' : World} {B f p : Nat} {ks kj : List Int} {N : Nat} {S : Nat → Prop} {k : Int}
theorem PrS.lo (h : PrS B f p ks N w S) {i : Nat} (hi : S i) : B ≤ i ∧ i < w.heap.size := by
  obtain ⟨st, g, scap, ts, q, cap, tv, hf, _, _, _, rfl⟩ := h
  exact hf.in_lo hi
theorem PrS.no (h : PrS B f p ks N w S) {i : Nat} {t : TypeId} {cs : Array Value} (hb : Blk w i t cs) (h1 : t ≠ PP) (h2 : t ≠ 75) (h3 : t ≠ 39) (h4 : t ≠ 67) (h5 : t ≠ 64) (h6 : t ≠ 3) : ¬ S i := by
  obtain ⟨st, g, scap, ts, q, cap, tv, hf, _, _, _, rfl⟩ := h
  exact hf.no hb h1 h2 h3 h4 h5 h6
theorem PrS.fr0 (h : PrS B f p ks N w S) (hf : Fr0 w w') : PrS B f p ks N w' S := by
  obtain ⟨st, g, scap, ts, q, cap, tv, h, e1, e2, e3, e4⟩ := h
  exact ⟨st, g, scap, ts, q, cap, tv, h.fr0 hf, e1, e2, e3, e4⟩
theorem prDo (h : PrS B f p ks N w S) (hs : stepB k ks = some kj) (hN : N < 50000) (hne : ks ≠ []) : Calls Try.prog 12 #[.pointer (some ⟨f, 0, none⟩), .int .i64 k] w fun e w' => e = .returned (.int .i64 0) ∧ ∃ S', PrS B f p kj (N + 1) w' S' ∧ Turn S S' w w' := by
  obtain ⟨st, g, scap, ts, q, cap, tv, h, rfl, hg, hn, rfl⟩ := h
  unfold stepB at hs
  split at hs
  · rename_i hl
    rw [List.length_map] at hl
    rcases do_prog k w h (fun e => hne (by rw [e]; rfl)) (by omega) (by omega) (fun x hx => by have := (hg.1 x hx).2.2.1; omega) with ⟨pre, l, K, M, rfl, hr, hK, hd⟩ | ⟨h0, _⟩
    · refine Calls.mono hd ?_
      rintro e w' ⟨rfl, pre', news, ts', g', scap', tv', hst, hf, ht⟩
      obtain ⟨g1, g2, g3⟩ := good_step hst K M hr hK hg
      have hk := hst.step K M hr hK
      rw [hs] at hk
      exact ⟨rfl, _, ⟨_, _, _, _, _, _, _, hf, (Option.some.inj hk).symm, g1, by omega, rfl⟩, ht⟩
    · rw [hs] at h0
      cases h0
  · cases hs
theorem prLit (a : Int) (h : PrS B f p ks N w S) (hN : N < 50000) : Calls Try.prog 13 #[.pointer (some ⟨p, 0, none⟩), .int .i64 1, .agg #[.int .i64 2, .int .i64 a, .int .i64 0]] w fun e w' => (∃ i, e = .returned (.tuple #[.int .i64 i, .int .i64 0])) ∧ ∃ S', PrS B f p ks (N + 1) w' S' ∧ Turn S S' w w' := by
  obtain ⟨st, g, scap, ts, q, cap, tv, h, rfl, hg, hn, rfl⟩ := h
  refine (Emit_p ⟨2, a, 0⟩ w h.pl (by omega)).mono ?_
  rintro e w' ⟨rfl, tv', h2, t2⟩
  obtain ⟨h3, t3⟩ := h.pool h2 t2
  exact ⟨⟨_, rfl⟩, _, ⟨_, _, _, _, _, _, _, h3, rfl, hg.lit a, by rw [List.length_append, List.length_singleton]; omega, rfl⟩, t3⟩
set_option maxRecDepth 100000 in
set_option maxHeartbeats 2000000 in
theorem Jumps_any (op : Int) (w : World) : Calls Try.prog 19 #[.int .i64 op] w fun e w' => e = .returned (.bool (jumpOp op)) ∧ w = w' := by
  unfold jumpOp
  by_cases h6 : op = 6
  · subst h6
    go_enter Try.func19, Try.ntmps19
    go_wp2_with fail
    go_ret
    exact ⟨rfl, rfl⟩
  by_cases h7 : op = 7
  · subst h7
    go_enter Try.func19, Try.ntmps19
    go_wp2_with fail
    go_ret
    exact ⟨rfl, rfl⟩
  by_cases h9 : op = 9
  · subst h9
    go_enter Try.func19, Try.ntmps19
    go_wp2_with fail
    go_ret
    exact ⟨rfl, rfl⟩
  by_cases h10 : op = 10
  · subst h10
    go_enter Try.func19, Try.ntmps19
    go_wp2_with fail
    go_ret
    exact ⟨rfl, rfl⟩
  by_cases h11 : op = 11
  · subst h11
    go_enter Try.func19, Try.ntmps19
    go_wp2_with fail
    go_ret
    exact ⟨rfl, rfl⟩
  by_cases h13 : op = 13
  · subst h13
    go_enter Try.func19, Try.ntmps19
    go_wp2_with fail
    go_ret
    exact ⟨rfl, rfl⟩
  have e6 : (op == (6 : Int)) = false := by simpa using h6
  have e7 : (op == (7 : Int)) = false := by simpa using h7
  have e9 : (op == (9 : Int)) = false := by simpa using h9
  have e10 : (op == (10 : Int)) = false := by simpa using h10
  have e11 : (op == (11 : Int)) = false := by simpa using h11
  have e13 : (op == (13 : Int)) = false := by simpa using h13
  rw [show (op == 6 || op == 7 || op == 9 || op == 10 || op == 11 || op == 13) = false by simp [*]]
  clear h6 h7 h9 h10 h11 h13
  go_enter Try.func19, Try.ntmps19
  go_wp2_with fail
  go_ret
  exact ⟨rfl, rfl⟩
end
end Go.Proofs.Ytoldegajbonliaa
