/- Flow: the document's Start. -/
import Derived.Test.YtoldegajbonliaaFr3
namespace Go.Proofs.Ytoldegajbonliaa
open Go Go.RowKit
set_option linter.unusedVariables false
attribute [local go_sem] Oper.semAt_some

section
variable {w w' : World} {B r p q cap : Nat} {tv tv' lv lv' : Value} {ts ts' : List Tk} {xs : List RT} {T : Nat → Prop}
set_option maxRecDepth 100000 in
set_option maxHeartbeats 2000000 in
theorem Start_r (w : World) (h : Blk w r 50 #[.pointer (some ⟨p, 0, none⟩), .int .i64 0, .slice none 0 0]) (hp : Pl RP w B p q cap tv ts) (hB : B ≤ r) : Calls Try.prog 41 #[.pointer (some ⟨r, 0, none⟩), .int .i64 1] w fun e w' => e = .returned (.int .i64 0) ∧ ∃ lv, RF w' B r p [⟨6, 0, [], .slice none 0 0⟩] lv ts q cap tv ∧ Fr (fun k => k = r) w w' ∧ ∀ k, lv.ownBlock = some k → w.heap.size ≤ k := by
  have y1 := h.frozen 1
  have y2 := h.frozen 2
  have c1 := h.cell 1
  have c2 := h.cell 2
  have hfl := h.lt
  have HH := Lib.hid h
  have HP := Lib.hid hp
  clear h hp
  go_enter Try.func41, Try.ntmps41
  go_wp2_with fail
  go_ret
  have hfo := ((HH.out.set_ 1 (.int .i64 1)).set_ 2 (.slice (some ⟨w.heap.size, 0, none⟩) 1 1)).alloc (.cells #[.int .i64 6, .int .i64 0, .slice none 0 0] 89)
  simp only [List.setIfInBounds_toArray, List.set_cons_zero, List.set_cons_succ] at hfo
  have hff := (((Fr.refl (fun k => k = r) w).setCell (p := ⟨r, 1, none⟩) (.inl rfl) (.int .i64 1)).setCell (p := ⟨r, 2, none⟩) (.inl rfl) (.slice (some ⟨w.heap.size, 0, none⟩) 1 1)).alloc (.cells #[.int .i64 6, .int .i64 0, .slice none 0 0] 89)
  have hsz : ((w.setCell ⟨r, 1, none⟩ (.int .i64 1)).setCell ⟨r, 2, none⟩ (.slice (some ⟨w.heap.size, 0, none⟩) 1 1)).heap.size = w.heap.size := by simp [World.setCell]
  have hrow := World.ownsRow_lit (base := B) (e := 89) (size := 3) ((w.setCell ⟨r, 1, none⟩ (.int .i64 1)).setCell ⟨r, 2, none⟩ (.slice (some ⟨w.heap.size, 0, none⟩) 1 1)) #[.int .i64 6, .int .i64 0, .slice none 0 0] 1 (by rw [hsz]; exact HP.out.lo.2.2) (by unfold maxLen; omega) rfl
  rw [hsz] at hrow
  refine ⟨rfl, _, ⟨hfo, HP.out.fr hff (fun k hk he => HP.out.no HH.out (by decide) (by decide) (by decide) (he ▸ hk)), hrow, fun x hx => ?_, fun i j x y k hi hj hk1 _ => ?_, hB, by decide⟩, hff, fun k hk => ?_⟩
  · obtain rfl : x = ⟨6, 0, [], .slice none 0 0⟩ := by simpa using hx
    exact ⟨OwnI.nil _ _, by simp⟩
  · have h1 := (List.getElem?_eq_some_iff.1 hi).1
    have h2 := (List.getElem?_eq_some_iff.1 hj).1
    simp at h1 h2
    omega
  · have h3 : w.heap.size = k := by simpa [Value.ownBlock] using hk
    omega
end
end Go.Proofs.Ytoldegajbonliaa
