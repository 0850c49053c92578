/- Flow: Do that is refused. -/
import Derived.Test.YtoldegajbonliaaFidle
import Derived.ArgAppend
namespace Go.Proofs.Ytoldegajbonliaa
open Go Go.RowKit
set_option linter.unusedVariables false
attribute [local go_sem] Oper.semAt_some

section
variable {w w' : World} {B f p g scap q cap : Nat} {tv tv' lv : Value} {ts ts' : List Tk} {st l : List Th} {T : Nat → Prop}
set_option maxRecDepth 100000 in
set_option maxHeartbeats 4000000 in
/-- No such word. -/
theorem do_noword (n : Int) (hn : ∀ k : Int, 1 ≤ k → k ≤ 18 → (n == k) = false) (w : World) (h : Fl w B f p st g scap ts q cap tv) : Calls Try.prog 12 #[.pointer (some ⟨f, 0, none⟩), .int .i64 n] w fun e w' => e = .returned (.int .i64 (-22)) ∧ Fr0 w w' := by
  have HI := Lib.hid (fun V (hV : Fr0 w V) => h.fr0 hV)
  clear h
  have HN := Lib.hid (fun V => find_not n hn V)
  clear hn
  go_enter Try.func12, Try.ntmps12
  go_wp2_with (go_at_call 33; refine (HN.out _).mono ?_; rintro e w1 ⟨rfl, hf1⟩)
  have hfb := hf1.alloc (.cells #[.slice none 0 0, .int .i64 0, .nilFunc] 71)
  obtain ⟨W2, hW2⟩ : ∃ W2, w1.alloc (.cells #[.slice none 0 0, .int .i64 0, .nilFunc] 71) = W2 := ⟨_, rfl⟩
  rw [hW2] at hfb ⊢
  have hid := HI.out _ hfb
  go_wp2_with fail
  have c1 := hid.cells.2.1
  go_quiet ((go_at_call 30; exact Calls.quiet_of_same ((none_f _ (hid.fr0 ((Fr.refl _ _).drewN _))).mono fun e w' h => ⟨h.1, h.2.symm⟩)))
  go_wp2_with fail
  go_ret
  exact ⟨rfl, hfb.drewN _⟩
set_option maxRecDepth 100000 in
set_option maxHeartbeats 4000000 in
/-- Too few things. -/
theorem do_short (word : Int) (fn : FuncId) (K : List Int) (more : Int) (hF : Finds word fn K more) (w : World) (h : Fl w B f p st g scap ts q cap tv) (hs : st.length < K.length) (hK : K.length ≤ 64) : Calls Try.prog 12 #[.pointer (some ⟨f, 0, none⟩), .int .i64 word] w fun e w' => e = .returned (.int .i64 (-22)) ∧ Fr0 w w' := by
  have HI := Lib.hid (fun V (hV : Fr0 w V) => h.fr0 hV)
  have hdeep := h.deep
  clear h
  obtain ⟨n, hn⟩ : ∃ n, st.length = n := ⟨_, rfl⟩
  obtain ⟨m, hm⟩ : ∃ m, K.length = m := ⟨_, rfl⟩
  rw [hn] at hs hdeep
  rw [hm] at hs hK
  have HNN := Lib.hid hn
  have hsI : (n : Int) < (m : Int) := by omega
  go_enter Try.func12, Try.ntmps12
  go_wp2_with (go_at_call 33; refine (hF _).mono ?_; rintro e w1 ⟨kv, rfl, hf1, hk1⟩; obtain ⟨_, KA, kc, rfl, _⟩ := hk1; rw [hm])
  have hfb := hf1.alloc (.cells #[.slice KA m kc, .int .i64 more, .func (.func fn) #[] #[]] 71)
  have hbx := Blk.new w1 71 #[.slice KA m kc, .int .i64 more, .func (.func fn) #[] #[]]
  obtain ⟨W2, hW2⟩ : ∃ W2, w1.alloc (.cells #[.slice KA m kc, .int .i64 more, .func (.func fn) #[] #[]] 71) = W2 := ⟨_, rfl⟩
  obtain ⟨bx, hbx'⟩ : ∃ bx, w1.heap.size = bx := ⟨_, rfl⟩
  rw [hW2] at hfb hbx ⊢
  rw [hbx'] at hbx ⊢
  have hid := HI.out _ hfb
  clear hn hm hW2 hbx'
  go_wp2_with fail
  have hcc := hid.cells
  rw [HNN.out] at hcc
  have c1 := hcc.2.1
  have c2 := hcc.2.2
  have b0 := hbx.cell 0
  clear hcc
  go_quiet ((go_at_call 30; exact Calls.quiet_of_same ((none_f _ (hid.fr0 ((Fr.refl _ _).drewN _))).mono fun e w' h => ⟨h.1, h.2.symm⟩)))
  go_wp2_with fail
  go_ret
  exact ⟨rfl, hfb.drewN _⟩
end
end Go.Proofs.Ytoldegajbonliaa
