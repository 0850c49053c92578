/- Names: begin, none, New, is, wrong. -/
import Derived.Test.YtmhjnbolngdijaaNlay
namespace Go.Proofs.Ytmhjnbolngdijaa
open Go Go.RowKit
set_option linter.unusedVariables false
attribute [local go_sem] Oper.semAt_some

theorem mapNil (W : World) (mm : Option Nat) : (binOp .eql 77 (.map mm) (.map none)).run Try.prog W = .ok (.bool mm.isNone) W := run_eql_map_nil (P := Try.prog) W 77 _ _ mm Try.underlying77
section
variable {w w' : World} {B c m q : Nat} {wv ov : Value} {lists cur : Int} {order : List Int} {ws : List Wd} {tv : Int × ByteArray → Value}
set_option maxRecDepth 100000 in
theorem begin_nm (w : World) (h : Nm w B c m wv ov lists cur order ws q tv) : Calls Try.prog 32 #[.pointer (some ⟨c, 0, none⟩)] w fun e w' => e = .returned (.tuple #[]) ∧ w = w' := by
  obtain ⟨c0, c1, c2, c3, c4⟩ := h.cells
  have hmn := mapNil
  clear h
  go_enter Try.func32, Try.ntmps32
  go_wp2
  go_end0
  exact ⟨rfl, rfl⟩
set_option maxRecDepth 100000 in
theorem none_nm (w : World) (h : Nm w B c m wv ov lists cur order ws q tv) : Calls Try.prog 33 #[.pointer (some ⟨c, 0, none⟩)] w fun e w' => e = .returned (.bool false) ∧ w = w' := by
  have HB := Lib.hid (begin_nm w h)
  clear h
  go_enter Try.func33, Try.ntmps33
  go_wp2_with (go_at_call 32; refine HB.out.mono ?_; rintro e w' ⟨rfl, rfl⟩)
  go_ret
  exact ⟨rfl, rfl⟩
set_option maxRecDepth 100000 in
theorem is_nm (l : Int) (w : World) (h : Nm w B c m wv ov lists cur order ws q tv) : Calls Try.prog 44 #[.pointer (some ⟨c, 0, none⟩), .int .i64 l] w fun e w' => e = .returned (.bool (decide (1 ≤ l ∧ l ≤ lists))) ∧ w = w' := by
  obtain ⟨c0, c1, c2, c3, c4⟩ := h.cells
  clear h
  by_cases h1 : 1 ≤ l
  · have hd : decide (1 ≤ l ∧ l ≤ lists) = decide (l ≤ lists) := by simp [h1]
    rw [hd]
    go_enter Try.func44, Try.ntmps44
    go_wp2
    go_ret
    exact ⟨rfl, rfl⟩
  · have h1' : l < 1 := by omega
    have hd : decide (1 ≤ l ∧ l ≤ lists) = false := by simp [h1]
    rw [hd]
    go_enter Try.func44, Try.ntmps44
    go_wp2
    go_ret
    exact ⟨rfl, rfl⟩
/-- What wrong tells of a word. -/
def wrongV (lists : Int) (x : Wd) : Int := if x.name.length = 0 ∨ 63 < x.name.length then 3 else if 1 ≤ x.list ∧ x.list ≤ lists then 0 else 4
set_option maxRecDepth 100000 in
set_option maxHeartbeats 1000000 in
theorem wrong_nm (x : Wd) (w : World) (h : Nm w B c m wv ov lists cur order ws q tv) : Calls Try.prog 34 #[.pointer (some ⟨c, 0, none⟩), x.val] w fun e w' => e = .returned (.int .i64 (wrongV lists x)) ∧ Fr0 w w' := by
  have HI := Lib.hid (fun V (hV : Fr0 w V) => is_nm x.list V (h.fr0 hV))
  have hsz : (strOfNums x.name).size = x.name.length := strOfNums_size _
  have hf : Fr0 w (w.alloc (.cells #[.string (strOfNums x.name), .int .i64 x.xt, .int .i64 x.list, .bool x.imm, .bool x.only] 30)) := (Fr.refl _ w).alloc _
  unfold Wd.val wrongV
  have he : (strOfNums x.name).toList.isEmpty = decide (x.name.length = 0) := by
    rw [ByteArray.toList_eq, strOfNums_data, Bool.eq_iff_iff]
    simp
  obtain ⟨n, hn⟩ : ∃ n, x.name.length = n := ⟨_, rfl⟩
  rw [hn] at hsz he ⊢
  have HF := Lib.hid hf
  clear h hn hf
  rcases (show n = 0 ∨ (0 < n ∧ 63 < n) ∨ (0 < n ∧ n ≤ 63 ∧ (1 ≤ x.list ∧ x.list ≤ lists)) ∨ (0 < n ∧ n ≤ 63 ∧ ¬ (1 ≤ x.list ∧ x.list ≤ lists)) by omega) with h1 | ⟨h1, h2⟩ | ⟨h1, h2, h3⟩ | ⟨h1, h2, h3⟩
  · rw [if_pos (.inl h1)]
    rw [decide_eq_true h1] at he
    subst h1
    go_enter Try.func34, Try.ntmps34
    go_wp2_with fail
    go_ret
    exact ⟨rfl, HF.out⟩
  · rw [if_pos (.inr h2)]
    have h2I : (63 : Int) < (n : Int) := by omega
    rw [decide_eq_false (by omega : ¬ n = 0)] at he
    go_enter Try.func34, Try.ntmps34
    go_wp2_with fail
    go_ret
    exact ⟨rfl, HF.out⟩
  · rw [if_neg (by omega), if_pos h3]
    have h2I : (n : Int) ≤ 63 := by omega
    rw [decide_eq_false (by omega : ¬ n = 0)] at he
    rw [decide_eq_true h3] at HI
    go_enter Try.func34, Try.ntmps34
    go_wp2_with (go_at_call 44; refine (HI.out _ HF.out).mono ?_; rintro e w' ⟨rfl, rfl⟩)
    go_ret
    exact ⟨rfl, HF.out⟩
  · rw [if_neg (by omega), if_neg h3]
    have h2I : (n : Int) ≤ 63 := by omega
    rw [decide_eq_false (by omega : ¬ n = 0)] at he
    rw [decide_eq_false h3] at HI
    go_enter Try.func34, Try.ntmps34
    go_wp2_with (go_at_call 44; refine (HI.out _ HF.out).mono ?_; rintro e w' ⟨rfl, rfl⟩)
    go_ret
    exact ⟨rfl, HF.out⟩

end

set_option maxRecDepth 100000 in
set_option maxHeartbeats 2000000 in
theorem New_nm (w : World) : Calls Try.prog 10 #[] w fun e w' => ∃ c m ov tv, e = .returned (.pointer (some ⟨c, 0, none⟩)) ∧ Nm w' w.heap.size c m (.slice none 0 0) ov 1 1 [1] [] 0 tv ∧ Fr0 w w' := by
  have hmm : ∀ W : World, (Instr.makeMap 77 none).run Try.prog W = .ok (.map (some W.heap.size)) (W.alloc (.map #[] 0)) := fun W => rfl
  have hmn := mapNil
  go_enter Try.func10, Try.ntmps10
  go_wp2_with go_in
  go_ret
  obtain ⟨z, hz⟩ : ∃ z, w.heap.size = z := ⟨_, rfl⟩
  rw [hz]
  have h1 : Blk (((w.alloc (.cells #[.slice none 0 0, .int .i64 1, .slice (some ⟨z + 1, 0, none⟩) 1 1, .int .i64 1, .map (some (z + 1 + 1))] 79)).alloc (.cells #[.int .i64 1] 3)).alloc (.map #[] 0)) z 79 #[.slice none 0 0, .int .i64 1, .slice (some ⟨z + 1, 0, none⟩) 1 1, .int .i64 1, .map (some (z + 1 + 1))] := by
    rw [← hz]
    exact ((Blk.new w _ _).alloc _).alloc _
  have h2 : Blk (((w.alloc (.cells #[.slice none 0 0, .int .i64 1, .slice (some ⟨z + 1, 0, none⟩) 1 1, .int .i64 1, .map (some (z + 1 + 1))] 79)).alloc (.cells #[.int .i64 1] 3)).alloc (.map #[] 0)) (z + 1) 3 #[.int .i64 1] := by
    have := (Blk.new (w.alloc (.cells #[.slice none 0 0, .int .i64 1, .slice (some ⟨z + 1, 0, none⟩) 1 1, .int .i64 1, .map (some (z + 1 + 1))] 79)) 3 #[.int .i64 1]).alloc (.map #[] 0)
    simpa [hz] using this
  have h3 : MapK encN (((w.alloc (.cells #[.slice none 0 0, .int .i64 1, .slice (some ⟨z + 1, 0, none⟩) 1 1, .int .i64 1, .map (some (z + 1 + 1))] 79)).alloc (.cells #[.int .i64 1] 3)).alloc (.map #[] 0)) (z + 1 + 1) (fun _ => none) := by
    have := MapK.made (enc := encN) ((w.alloc (.cells #[.slice none 0 0, .int .i64 1, .slice (some ⟨z + 1, 0, none⟩) 1 1, .int .i64 1, .map (some (z + 1 + 1))] 79)).alloc (.cells #[.int .i64 1] 3))
    simpa [hz] using this
  have hf : Fr0 w (((w.alloc (.cells #[.slice none 0 0, .int .i64 1, .slice (some ⟨z + 1, 0, none⟩) 1 1, .int .i64 1, .map (some (z + 1 + 1))] 79)).alloc (.cells #[.int .i64 1] 3)).alloc (.map #[] 0)) := (((Fr.refl _ w).alloc _).alloc _).alloc _
  refine ⟨z, z + 1 + 1, .slice (some ⟨z + 1, 0, none⟩) 1 1, fun _ => .slice none 0 0, rfl, ⟨h1, World.ownsRow_nil _ _ _ _, h3.congr (fun k => by rw [List.take_nil, toksOf_nil]; rfl), fun k hk => absurd (by rw [List.take_nil]; rfl) hk, fun k k' b hk => absurd (by rw [List.take_nil]; rfl) hk, ?_, fun k b hk => absurd (by rw [List.take_nil]; rfl) hk, ⟨Nat.le_refl _, by omega, Nat.le_trans (Nat.le_of_eq hz.symm) hf.size⟩, by simp, fun x hx => by cases hx⟩, hf⟩
  exact ⟨rfl, .inr ⟨z + 1, 1, #[.int .i64 1], rfl, by omega, h2, Nat.le_refl _, by unfold maxLen; omega, rfl, rfl⟩⟩
end Go.Proofs.Ytmhjnbolngdijaa
