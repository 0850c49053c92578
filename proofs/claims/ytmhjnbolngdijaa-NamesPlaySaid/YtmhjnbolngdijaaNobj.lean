/- Names: its object alone: begin, none, is, wrong. -/
import Derived.Test.YtmhjnbolngdijaaNtok
import Derived.Test.YtmhjnbolngdijaaNown
import Derived.Test.YtmhjnbolngdijaaNins2
namespace Go.Proofs.Ytmhjnbolngdijaa
open Go Go.RowKit
set_option linter.unusedVariables false
attribute [local go_sem] Oper.semAt_some

/-- The object of names. -/
def NObj (w : World) (c m : Nat) (wv ov : Value) (lists cur : Int) : Prop := Blk w c 79 #[wv, .int .i64 lists, ov, .int .i64 cur, .map (some m)]
section
variable {w w' : World} {c m : Nat} {wv ov : Value} {lists cur : Int}
theorem NObj.cells (h : NObj w c m wv ov lists cur) : w.cell? ⟨c, 0, none⟩ = some wv ∧ w.cell? ⟨c, 1, none⟩ = some (.int .i64 lists) ∧ w.cell? ⟨c, 2, none⟩ = some ov ∧ w.cell? ⟨c, 3, none⟩ = some (.int .i64 cur) ∧ w.cell? ⟨c, 4, none⟩ = some (.map (some m)) :=
  ⟨Blk.cell h 0, Blk.cell h 1, Blk.cell h 2, Blk.cell h 3, Blk.cell h 4⟩
theorem NObj.fr0 (h : NObj w c m wv ov lists cur) (hf : Fr0 w w') : NObj w' c m wv ov lists cur := Blk.fr0 h hf
theorem NObj.blk (h : NObj w c m wv ov lists cur) : Blk w c 79 #[wv, .int .i64 lists, ov, .int .i64 cur, .map (some m)] := h
set_option maxRecDepth 100000 in
theorem begin_ob (w : World) (h : NObj w c m wv ov lists cur) : Calls Try.prog 32 #[.pointer (some ⟨c, 0, none⟩)] w fun e w' => e = .returned (.tuple #[]) ∧ w = w' := by
  obtain ⟨c0, c1, c2, c3, c4⟩ := h.cells
  have hmn := mapNil
  clear h
  go_enter Try.func32, Try.ntmps32
  go_wp2
  go_end0
  exact ⟨rfl, rfl⟩
set_option maxRecDepth 100000 in
theorem none_ob (w : World) (h : NObj w c m wv ov lists cur) : Calls Try.prog 33 #[.pointer (some ⟨c, 0, none⟩)] w fun e w' => e = .returned (.bool false) ∧ w = w' := by
  have HB := Lib.hid (begin_ob w h)
  clear h
  go_enter Try.func33, Try.ntmps33
  go_wp2_with (go_at_call 32; refine HB.out.mono ?_; rintro e w' ⟨rfl, rfl⟩)
  go_ret
  exact ⟨rfl, rfl⟩
set_option maxRecDepth 100000 in
theorem is_ob (l : Int) (w : World) (h : NObj w c m wv ov lists cur) : Calls Try.prog 44 #[.pointer (some ⟨c, 0, none⟩), .int .i64 l] w fun e w' => e = .returned (.bool (decide (1 ≤ l ∧ l ≤ lists))) ∧ w = w' := by
  obtain ⟨c0, c1, c2, c3, c4⟩ := h.cells
  clear h
  by_cases h1 : 1 ≤ l
  · have hd : decide (1 ≤ l ∧ l ≤ lists) = decide (l ≤ lists) := by simp [h1]
    rw [hd]
    go_enter Try.func44, Try.ntmps44
    go_wp2
    go_ret
    exact ⟨rfl, rfl⟩
  · have h1' : l < 1 := by omega
    have hd : decide (1 ≤ l ∧ l ≤ lists) = false := by simp [h1]
    rw [hd]
    go_enter Try.func44, Try.ntmps44
    go_wp2
    go_ret
    exact ⟨rfl, rfl⟩
set_option maxRecDepth 100000 in
set_option maxHeartbeats 1000000 in
theorem wrong_ob (x : Wd) (w : World) (h : NObj w c m wv ov lists cur) : Calls Try.prog 34 #[.pointer (some ⟨c, 0, none⟩), x.val] w fun e w' => e = .returned (.int .i64 (wrongV lists x)) ∧ Fr0 w w' := by
  have HI := Lib.hid (fun V (hV : Fr0 w V) => is_ob x.list V (h.fr0 hV))
  have hsz : (strOfNums x.name).size = x.name.length := strOfNums_size _
  have hf : Fr0 w (w.alloc (.cells #[.string (strOfNums x.name), .int .i64 x.xt, .int .i64 x.list, .bool x.imm, .bool x.only] 30)) := (Fr.refl _ w).alloc _
  unfold Wd.val wrongV
  have he : (strOfNums x.name).toList.isEmpty = decide (x.name.length = 0) := by
    rw [ByteArray.toList_eq, strOfNums_data, Bool.eq_iff_iff]
    simp
  obtain ⟨n, hn⟩ : ∃ n, x.name.length = n := ⟨_, rfl⟩
  rw [hn] at hsz he ⊢
  have HF := Lib.hid hf
  clear h hn hf
  rcases (show n = 0 ∨ (0 < n ∧ 63 < n) ∨ (0 < n ∧ n ≤ 63 ∧ (1 ≤ x.list ∧ x.list ≤ lists)) ∨ (0 < n ∧ n ≤ 63 ∧ ¬ (1 ≤ x.list ∧ x.list ≤ lists)) by omega) with h1 | ⟨h1, h2⟩ | ⟨h1, h2, h3⟩ | ⟨h1, h2, h3⟩
  · rw [if_pos (.inl h1)]
    rw [decide_eq_true h1] at he
    subst h1
    go_enter Try.func34, Try.ntmps34
    go_wp2_with fail
    go_ret
    exact ⟨rfl, HF.out⟩
  · rw [if_pos (.inr h2)]
    have h2I : (63 : Int) < (n : Int) := by omega
    rw [decide_eq_false (by omega : ¬ n = 0)] at he
    go_enter Try.func34, Try.ntmps34
    go_wp2_with fail
    go_ret
    exact ⟨rfl, HF.out⟩
  · rw [if_neg (by omega), if_pos h3]
    have h2I : (n : Int) ≤ 63 := by omega
    rw [decide_eq_false (by omega : ¬ n = 0)] at he
    rw [decide_eq_true h3] at HI
    go_enter Try.func34, Try.ntmps34
    go_wp2_with (go_at_call 44; refine (HI.out _ HF.out).mono ?_; rintro e w' ⟨rfl, rfl⟩)
    go_ret
    exact ⟨rfl, HF.out⟩
  · rw [if_neg (by omega), if_neg h3]
    have h2I : (n : Int) ≤ 63 := by omega
    rw [decide_eq_false (by omega : ¬ n = 0)] at he
    rw [decide_eq_false h3] at HI
    go_enter Try.func34, Try.ntmps34
    go_wp2_with (go_at_call 44; refine (HI.out _ HF.out).mono ?_; rintro e w' ⟨rfl, rfl⟩)
    go_ret
    exact ⟨rfl, HF.out⟩

end
end Go.Proofs.Ytmhjnbolngdijaa
