/- Flow: pairs within one another (plain). -/
import Derived.Test.YtoldegajbonliaaFlaw
namespace Go.Proofs.Ytoldegajbonliaa
open Go Go.RowKit
set_option linter.unusedVariables false

theorem snoc_ind {α : Type} {P : List α → Prop} (h0 : P []) (hs : ∀ l a, P l → P (l ++ [a])) (l : List α) : P l := by
  have h : ∀ n, ∀ l : List α, l.length = n → P l := by
    intro n
    induction n with
    | zero => intro l hl; rw [List.eq_nil_of_length_eq_zero hl]; exact h0
    | succ n ih =>
      intro l hl
      rcases List.eq_nil_or_concat l with rfl | ⟨m, x, rfl⟩
      · simp at hl
      · rw [List.concat_eq_append] at hl ⊢
        exact hs m x (ih m (by simpa using hl))
  exact h _ l rfl
def kOf (a : Int) : Int := if Int.tmod a 9 < 0 then -(Int.tmod a 9) else Int.tmod a 9
def beginsV (k : Int) : List Int := if k = 1 then [1] else if k = 2 then [1, 4] else if k = 3 then [5] else if k = 4 then [5, 8] else if k = 5 then [10] else if k = 6 then [11, 14] else if k = 7 then [15, 16] else [5, 1, 3]
def endsV (k : Int) : List Int := if k = 1 then [3] else if k = 2 then [3] else if k = 3 then [7] else if k = 4 then [9] else if k = 5 then [12] else if k = 6 then [13] else if k = 7 then [17, 18] else [6]
def kindsV (k : Int) : List Int := if k = 1 then [1] else if k = 2 then [1] else if k = 3 then [2] else if k = 4 then [1, 2] else if k = 5 then [3] else if k = 6 then [3] else if k = 7 then [4, 5] else [2]
/-- One number of the list. -/
def stepP (o : List Int × List Int) (a : Int) : List Int × List Int :=
  if (kOf a = 0 ∨ 20 < o.2.length) ∧ 0 < o.2.length then (o.1 ++ endsV (o.2.getLastD 0), o.2.dropLast)
  else if kOf a = 0 then o
  else (o.1 ++ beginsV (kOf a), o.2 ++ [kOf a])
def closeV (op : List Int) : List Int := op.reverse.flatMap endsV
def foldP (l : List Int) : List Int × List Int := l.foldl stepP ([], [])
def pairsV (l : List Int) : List Int := (foldP l).1 ++ closeV (foldP l).2
theorem foldP_snoc (l : List Int) (a : Int) : foldP (l ++ [a]) = stepP (foldP l) a := by simp [foldP]
theorem closeV_snoc (op : List Int) (k : Int) : closeV (op ++ [k]) = endsV k ++ closeV op := by simp [closeV]
/-- A word, where there is room to spare. -/
def stepB (k : Int) (ks : List Int) : Option (List Int) := if ks.length < 60 then stepK k ks else none
def runB : List Int → List Int → Option (List Int)
  | ks, [] => some ks
  | ks, k :: ws => (stepB k ks).bind fun ks' => runB ks' ws
theorem runB_append (a : List Int) : ∀ (ks ws : List Int), runB ks (a ++ ws) = (runB ks a).bind fun ks' => runB ks' ws := by
  induction a with
  | nil => intro ks ws; rfl
  | cons k a ih =>
    intro ks ws
    show (stepB k ks).bind (fun ks' => runB ks' (a ++ ws)) = ((stepB k ks).bind fun ks' => runB ks' a).bind fun ks' => runB ks' ws
    cases stepB k ks with
    | none => rfl
    | some ks' => exact ih ks' ws
theorem step_app {k : Int} {K N : List Int} (hr : rowOf k = some (K, N)) (h14 : k ≠ 14) (ks : List Int) : stepK k (ks ++ K) = some (ks ++ N) := by
  unfold stepK
  rw [hr]
  dsimp only
  rw [if_pos ⟨isV_of, fun h => h14 h.1⟩, List.length_append, Nat.add_sub_cancel, List.take_left' rfl]
theorem step_leave {ks : List Int} (h : (3 : Int) ∈ ks) : stepK 14 ks = some ks := by
  unfold stepK
  rw [show rowOf 14 = some ([], []) from rfl]
  dsimp only
  rw [if_pos ⟨by unfold isV; simp, fun hh => hh.2 h⟩]
  simp
theorem runB_one {k : Int} {ks ks' : List Int} (ws : List Int) (hl : ks.length < 60) (h : stepK k ks = some ks') : runB ks (k :: ws) = runB ks' ws := by
  show (stepB k ks).bind _ = _
  unfold stepB
  rw [if_pos hl, h]
  rfl
theorem runB_row {k : Int} {K N : List Int} (hr : rowOf k = some (K, N)) (h14 : k ≠ 14) (ks : List Int) (ws : List Int) (hl : (ks ++ K).length < 60) : runB (ks ++ K) (k :: ws) = runB (ks ++ N) ws := runB_one ws hl (step_app hr h14 ks)
theorem begins_run (k : Int) (ks : List Int) (hl : ks.length ≤ 50) : runB ks (beginsV k) = some (ks ++ kindsV k) := by
  have e0 : ks = ks ++ [] := (List.append_nil ks).symm
  unfold beginsV kindsV
  by_cases h1 : k = 1
  · rw [if_pos h1, if_pos h1]
    conv => lhs; rw [e0]
    rw [runB_row (K := []) (N := [1]) rfl (by decide) ks _ (by simp; omega)]
    rfl
  rw [if_neg h1, if_neg h1]
  by_cases h2 : k = 2
  · rw [if_pos h2, if_pos h2]
    conv => lhs; rw [e0]
    rw [runB_row (K := []) (N := [1]) rfl (by decide) ks _ (by simp; omega), runB_row (K := [1]) (N := [1]) rfl (by decide) ks _ (by simp; omega)]
    rfl
  rw [if_neg h2, if_neg h2]
  by_cases h3 : k = 3
  · rw [if_pos h3, if_pos h3]
    conv => lhs; rw [e0]
    rw [runB_row (K := []) (N := [2]) rfl (by decide) ks _ (by simp; omega)]
    rfl
  rw [if_neg h3, if_neg h3]
  by_cases h4 : k = 4
  · rw [if_pos h4, if_pos h4]
    conv => lhs; rw [e0]
    rw [runB_row (K := []) (N := [2]) rfl (by decide) ks _ (by simp; omega), runB_row (K := [2]) (N := [1, 2]) rfl (by decide) ks _ (by simp; omega)]
    rfl
  rw [if_neg h4, if_neg h4]
  by_cases h5 : k = 5
  · rw [if_pos h5, if_pos h5]
    conv => lhs; rw [e0]
    rw [runB_row (K := []) (N := [3]) rfl (by decide) ks _ (by simp; omega)]
    rfl
  rw [if_neg h5, if_neg h5]
  by_cases h6 : k = 6
  · rw [if_pos h6, if_pos h6]
    conv => lhs; rw [e0]
    rw [runB_row (K := []) (N := [3]) rfl (by decide) ks _ (by simp; omega), runB_one _ (by simp; omega) (step_leave (by simp))]
    rfl
  rw [if_neg h6, if_neg h6]
  by_cases h7 : k = 7
  · rw [if_pos h7, if_pos h7]
    conv => lhs; rw [e0]
    rw [runB_row (K := []) (N := [4]) rfl (by decide) ks _ (by simp; omega), runB_row (K := [4]) (N := [4, 5]) rfl (by decide) ks _ (by simp; omega)]
    rfl
  rw [if_neg h7, if_neg h7]
  conv => lhs; rw [e0]
  rw [runB_row (K := []) (N := [2]) rfl (by decide) ks _ (by simp; omega)]
  conv => lhs; rw [← List.append_nil (ks ++ [2])]
  rw [runB_row (K := []) (N := [1]) rfl (by decide) (ks ++ [2]) _ (by simp; omega), runB_row (K := [1]) (N := []) rfl (by decide) (ks ++ [2]) _ (by simp; omega), List.append_nil]
  rfl
theorem ends_run (k : Int) (ks : List Int) (hl : ks.length ≤ 50) : runB (ks ++ kindsV k) (endsV k) = some ks := by
  have e0 : ∀ a : List Int, a ++ [] = a := fun a => List.append_nil a
  unfold endsV kindsV
  by_cases h1 : k = 1
  · rw [if_pos h1, if_pos h1, runB_row (K := [1]) (N := []) rfl (by decide) ks _ (by simp; omega), e0]
    rfl
  rw [if_neg h1, if_neg h1]
  by_cases h2 : k = 2
  · rw [if_pos h2, if_pos h2, runB_row (K := [1]) (N := []) rfl (by decide) ks _ (by simp; omega), e0]
    rfl
  rw [if_neg h2, if_neg h2]
  by_cases h3 : k = 3
  · rw [if_pos h3, if_pos h3, runB_row (K := [2]) (N := []) rfl (by decide) ks _ (by simp; omega), e0]
    rfl
  rw [if_neg h3, if_neg h3]
  by_cases h4 : k = 4
  · rw [if_pos h4, if_pos h4, runB_row (K := [1, 2]) (N := []) rfl (by decide) ks _ (by simp; omega), e0]
    rfl
  rw [if_neg h4, if_neg h4]
  by_cases h5 : k = 5
  · rw [if_pos h5, if_pos h5, runB_row (K := [3]) (N := []) rfl (by decide) ks _ (by simp; omega), e0]
    rfl
  rw [if_neg h5, if_neg h5]
  by_cases h6 : k = 6
  · rw [if_pos h6, if_pos h6, runB_row (K := [3]) (N := []) rfl (by decide) ks _ (by simp; omega), e0]
    rfl
  rw [if_neg h6, if_neg h6]
  by_cases h7 : k = 7
  · rw [if_pos h7, if_pos h7, runB_row (K := [4, 5]) (N := [4]) rfl (by decide) ks _ (by simp; omega), runB_row (K := [4]) (N := []) rfl (by decide) ks _ (by simp; omega), e0]
    rfl
  rw [if_neg h7, if_neg h7, runB_row (K := [2]) (N := []) rfl (by decide) ks _ (by simp; omega), e0]
  rfl
theorem begins_len (k : Int) : (beginsV k).length ≤ 3 := by unfold beginsV; repeat' split <;> try simp
theorem ends_len (k : Int) : (endsV k).length ≤ 2 := by unfold endsV; repeat' split <;> try simp
theorem kinds_len (k : Int) : (kindsV k).length ≤ 2 := by unfold kindsV; repeat' split <;> try simp
theorem kindsF_len (op : List Int) : (op.flatMap kindsV).length ≤ 2 * op.length := by
  induction op with
  | nil => simp
  | cons k op ih =>
    have := kinds_len k
    rw [List.flatMap_cons, List.length_append, List.length_cons]
    omega
theorem last_split {op : List Int} (h : 0 < op.length) : op = op.dropLast ++ [op.getLastD 0] := by
  rcases List.eq_nil_or_concat op with rfl | ⟨m, x, rfl⟩
  · simp at h
  · simp
/-- What the fold keeps. -/
theorem foldP_run (l : List Int) : runB [6] (foldP l).1 = some (6 :: (foldP l).2.flatMap kindsV) ∧ (foldP l).2.length ≤ 21 ∧ (foldP l).1.length ≤ 3 * l.length := by
  refine snoc_ind (P := fun l => runB [6] (foldP l).1 = some (6 :: (foldP l).2.flatMap kindsV) ∧ (foldP l).2.length ≤ 21 ∧ (foldP l).1.length ≤ 3 * l.length) ?_ ?_ l
  · exact ⟨rfl, by decide, by decide⟩
  · intro l a ih
    obtain ⟨h1, h2, h3⟩ := ih
    have hk := kindsF_len (foldP l).2
    rw [foldP_snoc]
    unfold stepP
    split
    · rename_i hc
      have hs := last_split hc.2
      have hkk : (foldP l).2.flatMap kindsV = (foldP l).2.dropLast.flatMap kindsV ++ kindsV ((foldP l).2.getLastD 0) := by
        conv => lhs; rw [hs]
        simp
      have hkd := kindsF_len (foldP l).2.dropLast
      have hdl : (foldP l).2.dropLast.length ≤ (foldP l).2.length := by simp
      refine ⟨?_, by dsimp only; omega, ?_⟩
      · rw [runB_append, h1]
        show runB (6 :: (foldP l).2.flatMap kindsV) _ = _
        rw [hkk, ← List.cons_append]
        exact ends_run _ _ (by rw [List.length_cons]; omega)
      · have := ends_len ((foldP l).2.getLastD 0)
        rw [List.length_append, List.length_append, List.length_singleton]
        omega
    · split
      · refine ⟨h1, h2, ?_⟩
        rw [List.length_append]
        omega
      · rename_i hc hz
        have hop : (foldP l).2.length ≤ 20 := by
          rcases Nat.lt_or_ge 20 (foldP l).2.length with h | h
          · exact absurd ⟨.inr h, by omega⟩ hc
          · exact h
        refine ⟨?_, by simp; omega, ?_⟩
        · rw [runB_append, h1]
          show runB (6 :: (foldP l).2.flatMap kindsV) _ = _
          rw [begins_run _ _ (by rw [List.length_cons]; omega)]
          simp
        · have := begins_len (kOf a)
          simp
          omega
theorem close_run (op : List Int) : op.length ≤ 21 → runB (6 :: op.flatMap kindsV) (closeV op) = some [6] ∧ (closeV op).length ≤ 2 * op.length := by
  refine snoc_ind (P := fun op => op.length ≤ 21 → runB (6 :: op.flatMap kindsV) (closeV op) = some [6] ∧ (closeV op).length ≤ 2 * op.length) ?_ ?_ op
  · intro _; exact ⟨rfl, by decide⟩
  · intro op k ih hl
    rw [List.length_append, List.length_singleton] at hl
    obtain ⟨h1, h2⟩ := ih (by omega)
    have hk := kindsF_len op
    have he := ends_len k
    rw [closeV_snoc, List.flatMap_append, runB_append, show [k].flatMap kindsV = kindsV k by simp, ← List.cons_append, ends_run k _ (by rw [List.length_cons]; omega)]
    refine ⟨h1, ?_⟩
    rw [List.length_append, List.length_append, List.length_singleton]
    omega
theorem pairs_run (l : List Int) : runB [6] (pairsV l) = some [6] ∧ (pairsV l).length ≤ 3 * l.length + 42 := by
  obtain ⟨h1, h2, h3⟩ := foldP_run l
  obtain ⟨h4, h5⟩ := close_run _ h2
  unfold pairsV
  refine ⟨?_, by rw [List.length_append]; omega⟩
  rw [runB_append, h1]
  exact h4
/-- So far, and the next word. -/
theorem runB_at {ks fin ws : List Int} (h : runB ks ws = some fin) (i : Nat) : ∃ ki, runB ks (ws.take i) = some ki ∧ ∀ k, ws[i]? = some k → ∃ kj, stepB k ki = some kj ∧ runB ks (ws.take (i + 1)) = some kj := by
  rw [← List.take_append_drop i ws, runB_append] at h
  cases hi : runB ks (ws.take i) with
  | none => rw [hi] at h; cases h
  | some ki =>
    rw [hi] at h
    refine ⟨ki, rfl, fun k hk => ?_⟩
    have hl := (List.getElem?_eq_some_iff.1 hk).1
    have he := (List.getElem?_eq_some_iff.1 hk).2
    rw [List.drop_eq_getElem_cons hl, he] at h
    have h2 : (stepB k ki).bind (fun ks' => runB ks' (ws.drop (i + 1))) = some fin := h
    cases hj : stepB k ki with
    | none => rw [hj] at h2; cases h2
    | some kj =>
      refine ⟨kj, rfl, ?_⟩
      rw [List.take_add_one, hk, runB_append, hi]
      show (stepB k ki).bind (fun ks' => runB ks' []) = _
      rw [hj]
      rfl
end Go.Proofs.Ytoldegajbonliaa
