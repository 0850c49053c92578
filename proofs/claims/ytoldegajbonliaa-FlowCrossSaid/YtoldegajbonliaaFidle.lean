/- Flow: where nothing is compiled. -/
import Derived.Test.YtoldegajbonliaaFawake
import Derived.BigQuiet
namespace Go.Proofs.Ytoldegajbonliaa
open Go Go.RowKit
set_option linter.unusedVariables false
attribute [local go_sem] Oper.semAt_some

/-- A flow that compiles nothing: none; one of no pool; one of a pool. -/
inductive Idle (w : World) : Value → Bool → Prop where
  | none_ : Idle w (.pointer none) true
  | noPool (f : Nat) (h : Blk w f 67 #[.pointer none, .int .i64 0, .slice none 0 0]) : Idle w (.pointer (some ⟨f, 0, none⟩)) true
  | idle (f p : Nat) (h : Blk w f 67 #[.pointer (some ⟨p, 0, none⟩), .int .i64 0, .slice none 0 0]) : Idle w (.pointer (some ⟨f, 0, none⟩)) false
section
variable {w w' : World} {fv : Value} {b : Bool}
theorem Idle.fr0 (h : Idle w fv b) (hf : Fr0 w w') : Idle w' fv b := by
  cases h with
  | none_ => exact .none_
  | noPool f h => exact .noPool f (h.fr0 hf)
  | idle f p h => exact .idle f p (h.fr0 hf)
set_option maxRecDepth 100000 in
theorem none_e (w : World) (h : Idle w fv b) : Calls Try.prog 30 #[fv] w fun e w' => e = .returned (.bool b) ∧ w = w' := by
  cases h with
  | none_ =>
    go_enter Try.func30, Try.ntmps30
    go_wp2_with fail
    go_ret
    exact ⟨rfl, rfl⟩
  | noPool f h =>
    have c0 := h.cell 0
    go_enter Try.func30, Try.ntmps30
    go_wp2_with fail
    go_ret
    exact ⟨rfl, rfl⟩
  | idle f p h =>
    have c0 := h.cell 0
    go_enter Try.func30, Try.ntmps30
    go_wp2_with fail
    go_ret
    exact ⟨rfl, rfl⟩
set_option maxRecDepth 100000 in
set_option maxHeartbeats 2000000 in
theorem Depth_e (w : World) (h : Idle w fv b) : Calls Try.prog 14 #[fv] w fun e w' => e = .returned (.int .i64 0) ∧ w = w' := by
  cases h with
  | none_ =>
    go_enter Try.func14, Try.ntmps14
    go_wp2_with fail
    go_ret
    exact ⟨rfl, rfl⟩
  | noPool f h =>
    have c0 := h.cell 0
    have c1 := h.cell 1
    have c2 := h.cell 2
    go_enter Try.func14, Try.ntmps14
    go_wp2_with fail
    go_ret
    exact ⟨rfl, rfl⟩
  | idle f p h =>
    have c0 := h.cell 0
    have c1 := h.cell 1
    have c2 := h.cell 2
    go_enter Try.func14, Try.ntmps14
    go_wp2_with fail
    go_ret
    exact ⟨rfl, rfl⟩
set_option maxRecDepth 100000 in
set_option maxHeartbeats 2000000 in
theorem at_e (u : Int) (w : World) (h : Idle w fv b) : Calls Try.prog 45 #[fv, .int .i64 u] w fun e w' => e = .returned (.tuple #[.int .i64 0, .bool false]) ∧ w = w' := by
  have HNO := Lib.hid (none_e w h)
  cases h with
  | none_ =>
    go_enter Try.func45, Try.ntmps45
    go_wp2_with (go_at_call 30; refine HNO.out.mono ?_; rintro e w1 ⟨rfl, rfl⟩)
    go_ret2
    exact ⟨rfl, rfl⟩
  | noPool f h =>
    go_enter Try.func45, Try.ntmps45
    go_wp2_with (go_at_call 30; refine HNO.out.mono ?_; rintro e w1 ⟨rfl, rfl⟩)
    go_ret2
    exact ⟨rfl, rfl⟩
  | idle f p h =>
    have c2 := h.cell 2
    by_cases hu : u < 0
    · go_enter Try.func45, Try.ntmps45
      go_wp2_with (go_at_call 30; refine HNO.out.mono ?_; rintro e w1 ⟨rfl, rfl⟩)
      go_ret2
      exact ⟨rfl, rfl⟩
    · have hu' : 0 ≤ u := by omega
      go_enter Try.func45, Try.ntmps45
      go_wp2_with (go_at_call 30; refine HNO.out.mono ?_; rintro e w1 ⟨rfl, rfl⟩)
      go_ret2
      exact ⟨rfl, rfl⟩
set_option maxRecDepth 100000 in
theorem Pick_e (u : Int) (w : World) (h : Idle w fv b) : Calls Try.prog 24 #[fv, .int .i64 u] w fun e w' => e = .returned (.int .i64 (-22)) ∧ w = w' := by
  have HAT := Lib.hid (at_e u w h)
  clear h
  go_enter Try.func24, Try.ntmps24
  go_wp2_with (go_at_call 45; refine HAT.out.mono ?_; rintro e w1 ⟨rfl, rfl⟩)
  go_ret
  exact ⟨rfl, rfl⟩
set_option maxRecDepth 100000 in
theorem Roll_e (u : Int) (w : World) (h : Idle w fv b) : Calls Try.prog 25 #[fv, .int .i64 u] w fun e w' => e = .returned (.int .i64 (-22)) ∧ w = w' := by
  have HAT := Lib.hid (at_e u w h)
  clear h
  go_enter Try.func25, Try.ntmps25
  go_wp2_with (go_at_call 45; refine HAT.out.mono ?_; rintro e w1 ⟨rfl, rfl⟩)
  go_ret
  exact ⟨rfl, rfl⟩
set_option maxRecDepth 100000 in
theorem Kinds_e (w : World) (h : Idle w fv b) : Calls Try.prog 26 #[fv] w fun e w' => e = .returned (.slice none 0 0) ∧ w = w' := by
  have HDE := Lib.hid (Depth_e w h)
  clear h
  go_enter Try.func26, Try.ntmps26
  go_wp2_with (go_at_call 14; refine HDE.out.mono ?_; rintro e w1 ⟨rfl, rfl⟩)
  go_loopw [3, 7] (fun o i wr => o = .slice none 0 0 ∧ i = .int .i64 0 ∧ w = wr) (fun _ _ _ => 0)
  case atStart => exact ⟨rfl, rfl, rfl⟩
  case round =>
    obtain ⟨rfl, rfl, rfl⟩ := hrel
    go_wp2_with fail
    go_ret
    exact ⟨rfl, rfl⟩
set_option maxRecDepth 100000 in
set_option maxHeartbeats 2000000 in
theorem Finish_e (w : World) (h : Idle w fv b) : Calls Try.prog 15 #[fv] w fun e w' => e = .returned (.int .i64 (-22)) ∧ w = w' := by
  have HNO := Lib.hid (none_e w h)
  cases h with
  | none_ =>
    go_enter Try.func15, Try.ntmps15
    go_wp2_with (go_at_call 30; refine HNO.out.mono ?_; rintro e w1 ⟨rfl, rfl⟩)
    go_ret
    exact ⟨rfl, rfl⟩
  | noPool f h =>
    go_enter Try.func15, Try.ntmps15
    go_wp2_with (go_at_call 30; refine HNO.out.mono ?_; rintro e w1 ⟨rfl, rfl⟩)
    go_ret
    exact ⟨rfl, rfl⟩
  | idle f p h =>
    have c1 := h.cell 1
    go_enter Try.func15, Try.ntmps15
    go_wp2_with (go_at_call 30; refine HNO.out.mono ?_; rintro e w1 ⟨rfl, rfl⟩)
    go_ret
    exact ⟨rfl, rfl⟩
set_option maxRecDepth 100000 in
set_option maxHeartbeats 4000000 in
theorem find_not (n : Int) (hn : ∀ k : Int, 1 ≤ k → k ≤ 18 → (n == k) = false) (w : World) : Calls Try.prog 33 #[.int .i64 n] w fun e w' => e = .returned (.tuple #[.agg #[.slice none 0 0, .int .i64 0, .nilFunc], .bool false]) ∧ Fr0 w w' := by
  have e1 := hn 1 (by decide) (by decide)
  have e2 := hn 2 (by decide) (by decide)
  have e3 := hn 3 (by decide) (by decide)
  have e4 := hn 4 (by decide) (by decide)
  have e5 := hn 5 (by decide) (by decide)
  have e6 := hn 6 (by decide) (by decide)
  have e7 := hn 7 (by decide) (by decide)
  have e8 := hn 8 (by decide) (by decide)
  have e9 := hn 9 (by decide) (by decide)
  have e10 := hn 10 (by decide) (by decide)
  have e11 := hn 11 (by decide) (by decide)
  have e12 := hn 12 (by decide) (by decide)
  have e13 := hn 13 (by decide) (by decide)
  have e14 := hn 14 (by decide) (by decide)
  have e15 := hn 15 (by decide) (by decide)
  have e16 := hn 16 (by decide) (by decide)
  have e17 := hn 17 (by decide) (by decide)
  have e18 := hn 18 (by decide) (by decide)
  clear hn
  go_enter Try.func33, Try.ntmps33
  go_wp2_with fail
  exact bodyPost_ret (v := .tuple #[.agg #[.slice none 0 0, .int .i64 0, .nilFunc], .bool false]) (by simp [results, Try.results33, go_sem]) rfl ⟨rfl, (Fr.refl _ w).alloc _⟩
theorem find_any (n : Int) : (∃ fn K more, Finds n fn K more) ∨ ∀ k : Int, 1 ≤ k → k ≤ 18 → (n == k) = false := by
  by_cases h1 : n = 1
  · subst h1
    exact .inl ⟨_, _, _, find_1⟩
  by_cases h2 : n = 2
  · subst h2
    exact .inl ⟨_, _, _, find_2⟩
  by_cases h3 : n = 3
  · subst h3
    exact .inl ⟨_, _, _, find_3⟩
  by_cases h4 : n = 4
  · subst h4
    exact .inl ⟨_, _, _, find_4⟩
  by_cases h5 : n = 5
  · subst h5
    exact .inl ⟨_, _, _, find_5⟩
  by_cases h6 : n = 6
  · subst h6
    exact .inl ⟨_, _, _, find_6⟩
  by_cases h7 : n = 7
  · subst h7
    exact .inl ⟨_, _, _, find_7⟩
  by_cases h8 : n = 8
  · subst h8
    exact .inl ⟨_, _, _, find_8⟩
  by_cases h9 : n = 9
  · subst h9
    exact .inl ⟨_, _, _, find_9⟩
  by_cases h10 : n = 10
  · subst h10
    exact .inl ⟨_, _, _, find_10⟩
  by_cases h11 : n = 11
  · subst h11
    exact .inl ⟨_, _, _, find_11⟩
  by_cases h12 : n = 12
  · subst h12
    exact .inl ⟨_, _, _, find_12⟩
  by_cases h13 : n = 13
  · subst h13
    exact .inl ⟨_, _, _, find_13⟩
  by_cases h14 : n = 14
  · subst h14
    exact .inl ⟨_, _, _, find_14⟩
  by_cases h15 : n = 15
  · subst h15
    exact .inl ⟨_, _, _, find_15⟩
  by_cases h16 : n = 16
  · subst h16
    exact .inl ⟨_, _, _, find_16⟩
  by_cases h17 : n = 17
  · subst h17
    exact .inl ⟨_, _, _, find_17⟩
  by_cases h18 : n = 18
  · subst h18
    exact .inl ⟨_, _, _, find_18⟩
  right
  intro k h1 h2
  have : n ≠ k := by omega
  simpa using this
set_option maxRecDepth 100000 in
set_option maxHeartbeats 4000000 in
theorem Do_e (n : Int) (w : World) (h : Idle w fv b) : Calls Try.prog 12 #[fv, .int .i64 n] w fun e w' => e = .returned (.int .i64 (-22)) ∧ Fr0 w w' := by
  have HI := Lib.hid (fun V (hV : Fr0 w V) => h.fr0 hV)
  have hfn := find_any n
  clear h
  rcases hfn with ⟨fn, K, more, hF⟩ | hF
  · go_enter Try.func12, Try.ntmps12
    go_wp2_with (go_at_call 33; refine (hF _).mono ?_; rintro e w1 ⟨kv, rfl, hf1, hk1⟩; obtain ⟨_, KA, kc, rfl, _⟩ := hk1)
    have hfb := hf1.alloc (.cells #[.slice KA K.length kc, .int .i64 more, .func (.func fn) #[] #[]] 71)
    obtain ⟨W2, hW2⟩ : ∃ W2, w1.alloc (.cells #[.slice KA K.length kc, .int .i64 more, .func (.func fn) #[] #[]] 71) = W2 := ⟨_, rfl⟩
    rw [hW2] at hfb ⊢
    have hid := HI.out _ hfb
    go_wp2_with fail
    have hid' := hid
    cases hid' with
    | none_ =>
      go_quiet ((go_at_call 30; exact Calls.quiet_of_same ((none_e _ (hid.fr0 ((Fr.refl _ _).drewN _))).mono fun e w' h => ⟨h.1, h.2.symm⟩)))
      go_wp2_with fail
      go_ret
      exact ⟨rfl, hfb.drewN _⟩
    | noPool f h =>
      go_quiet ((go_at_call 30; exact Calls.quiet_of_same ((none_e _ (hid.fr0 ((Fr.refl _ _).drewN _))).mono fun e w' h => ⟨h.1, h.2.symm⟩)))
      go_wp2_with fail
      go_ret
      exact ⟨rfl, hfb.drewN _⟩
    | idle f p h =>
      have c1 := h.cell 1
      go_quiet ((go_at_call 30; exact Calls.quiet_of_same ((none_e _ (hid.fr0 ((Fr.refl _ _).drewN _))).mono fun e w' h => ⟨h.1, h.2.symm⟩)))
      go_wp2_with fail
      go_ret
      exact ⟨rfl, hfb.drewN _⟩
  · have HN := Lib.hid (fun V => find_not n hF V)
    go_enter Try.func12, Try.ntmps12
    go_wp2_with (go_at_call 33; refine (HN.out _).mono ?_; rintro e w1 ⟨rfl, hf1⟩)
    have hfb := hf1.alloc (.cells #[.slice none 0 0, .int .i64 0, .nilFunc] 71)
    obtain ⟨W2, hW2⟩ : ∃ W2, w1.alloc (.cells #[.slice none 0 0, .int .i64 0, .nilFunc] 71) = W2 := ⟨_, rfl⟩
    rw [hW2] at hfb ⊢
    have hid := HI.out _ hfb
    go_wp2_with fail
    have hid' := hid
    cases hid' with
    | none_ =>
      go_quiet ((go_at_call 30; exact Calls.quiet_of_same ((none_e _ (hid.fr0 ((Fr.refl _ _).drewN _))).mono fun e w' h => ⟨h.1, h.2.symm⟩)))
      go_wp2_with fail
      go_ret
      exact ⟨rfl, hfb.drewN _⟩
    | noPool f h =>
      go_quiet ((go_at_call 30; exact Calls.quiet_of_same ((none_e _ (hid.fr0 ((Fr.refl _ _).drewN _))).mono fun e w' h => ⟨h.1, h.2.symm⟩)))
      go_wp2_with fail
      go_ret
      exact ⟨rfl, hfb.drewN _⟩
    | idle f p h =>
      have c1 := h.cell 1
      go_quiet ((go_at_call 30; exact Calls.quiet_of_same ((none_e _ (hid.fr0 ((Fr.refl _ _).drewN _))).mono fun e w' h => ⟨h.1, h.2.symm⟩)))
      go_wp2_with fail
      go_ret
      exact ⟨rfl, hfb.drewN _⟩
end
end Go.Proofs.Ytoldegajbonliaa
