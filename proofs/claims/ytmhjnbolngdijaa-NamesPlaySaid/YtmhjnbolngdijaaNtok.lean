/- Names: the tokens of a key, told by which words are laid (plain Lean). -/
import Derived.Test.YtmhjnbolngdijaaNfind
namespace Go.Proofs.Ytmhjnbolngdijaa
open Go Go.RowKit
set_option linter.unusedVariables false

/-- The tokens of a key among the words that are laid, rising. -/
def toksP (ws : List Wd) (P : Nat → Bool) (k : Int × ByteArray) : List Int := (ws.zipIdx.filter fun p => P p.2 && decide (p.1.key = k)).map fun p => (p.2 : Int) + 1
theorem toksP_mem {ws : List Wd} {P : Nat → Bool} {k : Int × ByteArray} {t : Int} : t ∈ toksP ws P k ↔ ∃ (i : Nat) (x : Wd), ws[i]? = some x ∧ P i = true ∧ x.key = k ∧ t = (i : Int) + 1 := by
  unfold toksP
  rw [List.mem_map]
  constructor
  · rintro ⟨⟨x, i⟩, hp, rfl⟩
    obtain ⟨h1, h2⟩ := List.mem_filter.1 hp
    have h3 := List.mem_zipIdx h1
    simp only [Bool.and_eq_true, decide_eq_true_eq] at h2
    refine ⟨i, x, ?_, h2.1, h2.2, rfl⟩
    have hx : x = ws[i - 0]'(by omega) := h3.2.2
    rw [hx]
    exact List.getElem?_eq_getElem _
  · rintro ⟨i, x, hx, hP, hk, rfl⟩
    refine ⟨(x, i), List.mem_filter.2 ⟨?_, by simp [hP, hk]⟩, rfl⟩
    rw [List.mem_iff_getElem?]
    exact ⟨i, by rw [List.getElem?_zipIdx, hx]; simp⟩
theorem toksP_pair (ws : List Wd) (P : Nat → Bool) (k : Int × ByteArray) : (toksP ws P k).Pairwise (· < ·) := by
  unfold toksP
  rw [List.pairwise_map]
  have h1 : ws.zipIdx.Pairwise (fun a b => a.2 < b.2) := by
    rw [List.pairwise_iff_getElem]
    intro i j hi hj hij
    simp
    exact hij
  exact (h1.filter _).imp fun h => by omega
theorem pair_rise {l : List Int} (hp : l.Pairwise (· < ·)) : ∀ (i j : Nat) (x y : Int), i < j → l[i]? = some x → l[j]? = some y → x < y := by
  intro i j x y hij hx hy
  obtain ⟨hi, rfl⟩ := List.getElem?_eq_some_iff.1 hx
  obtain ⟨hj, rfl⟩ := List.getElem?_eq_some_iff.1 hy
  exact List.pairwise_iff_getElem.1 hp i j hi hj hij
/-- Two rising rows with the same elements are one. -/
theorem rise_unique : ∀ {l m : List Int}, l.Pairwise (· < ·) → m.Pairwise (· < ·) → (∀ x, x ∈ l ↔ x ∈ m) → l = m
  | [], [], _, _, _ => rfl
  | [], b :: m, _, _, h => by have := (h b).2 (by simp); cases this
  | a :: l, [], _, _, h => by have := (h a).1 (by simp); cases this
  | a :: l, b :: m, hl, hm, h => by
    rw [List.pairwise_cons] at hl hm
    have hab : a = b := by
      have h1 := (h a).1 (by simp)
      have h2 := (h b).2 (by simp)
      rcases List.mem_cons.1 h1 with e | e
      · exact e
      · rcases List.mem_cons.1 h2 with e2 | e2
        · exact e2.symm
        · have := hl.1 b e2
          have := hm.1 a e
          omega
    subst hab
    rw [rise_unique hl.2 hm.2 (fun x => ?_)]
    constructor
    · intro hx
      rcases List.mem_cons.1 ((h x).1 (by simp [hx])) with e | e
      · subst e; have := hl.1 x hx; omega
      · exact e
    · intro hx
      rcases List.mem_cons.1 ((h x).2 (by simp [hx])) with e | e
      · subst e; have := hm.1 x hx; omega
      · exact e
theorem toksP_range {ws : List Wd} {P : Nat → Bool} {k : Int × ByteArray} {t : Int} (h : t ∈ toksP ws P k) : 1 ≤ t ∧ t ≤ ws.length := by
  obtain ⟨i, x, hx, _, _, rfl⟩ := toksP_mem.1 h
  have := (List.getElem?_eq_some_iff.1 hx).1
  omega
theorem toksP_len (ws : List Wd) (P : Nat → Bool) (k : Int × ByteArray) : (toksP ws P k).length ≤ ws.length := by
  unfold toksP
  rw [List.length_map]
  refine Nat.le_trans (List.length_filter_le _ _) ?_
  simp
theorem toksP_all (ws : List Wd) (k : Int × ByteArray) : toksP ws (fun _ => true) k = toksOf ws k := by
  unfold toksP toksOf
  simp
theorem toksP_congr {ws ws' : List Wd} {P P' : Nat → Bool} {k : Int × ByteArray} (h : ∀ (i : Nat), (∃ x, ws[i]? = some x ∧ P i = true ∧ x.key = k) ↔ (∃ x, ws'[i]? = some x ∧ P' i = true ∧ x.key = k)) : toksP ws P k = toksP ws' P' k := by
  refine rise_unique (toksP_pair _ _ _) (toksP_pair _ _ _) (fun t => ?_)
  rw [toksP_mem, toksP_mem]
  constructor
  · rintro ⟨i, x, h1, h2, h3, rfl⟩
    obtain ⟨x', g1, g2, g3⟩ := (h i).1 ⟨x, h1, h2, h3⟩
    exact ⟨i, x', g1, g2, g3, rfl⟩
  · rintro ⟨i, x, h1, h2, h3, rfl⟩
    obtain ⟨x', g1, g2, g3⟩ := (h i).2 ⟨x, h1, h2, h3⟩
    exact ⟨i, x', g1, g2, g3, rfl⟩
/-- One more is laid. -/
def withP (P : Nat → Bool) (q : Nat) (i : Nat) : Bool := P i || decide (i = q)
/-- One is laid no more. -/
def lessP (P : Nat → Bool) (q : Nat) (i : Nat) : Bool := P i && decide (i ≠ q)
theorem with_other {ws : List Wd} {P : Nat → Bool} {q : Nat} {x : Wd} (hx : ws[q]? = some x) {k : Int × ByteArray} (hk : k ≠ x.key) : toksP ws (withP P q) k = toksP ws P k := by
  refine toksP_congr fun i => ?_
  unfold withP
  constructor
  · rintro ⟨y, h1, h2, h3⟩
    refine ⟨y, h1, ?_, h3⟩
    by_cases hi : i = q
    · subst hi
      rw [hx] at h1
      injection h1 with h1
      subst h1
      exact absurd h3.symm hk
    · simpa [hi] using h2
  · rintro ⟨y, h1, h2, h3⟩
    exact ⟨y, h1, by simp [h2], h3⟩
theorem less_other {ws : List Wd} {P : Nat → Bool} {q : Nat} {x : Wd} (hx : ws[q]? = some x) {k : Int × ByteArray} (hk : k ≠ x.key) : toksP ws (lessP P q) k = toksP ws P k := by
  refine toksP_congr fun i => ?_
  unfold lessP
  constructor
  · rintro ⟨y, h1, h2, h3⟩
    simp only [Bool.and_eq_true] at h2
    exact ⟨y, h1, h2.1, h3⟩
  · rintro ⟨y, h1, h2, h3⟩
    refine ⟨y, h1, ?_, h3⟩
    by_cases hi : i = q
    · subst hi
      rw [hx] at h1
      injection h1 with h1
      subst h1
      exact absurd h3.symm hk
    · simp [h2, hi]
/-- Where a token is laid between. -/
theorem with_same {ws : List Wd} {P : Nat → Bool} {q : Nat} {x : Wd} (hx : ws[q]? = some x) (hP : P q = false) {a : Nat} (ha : a ≤ (toksP ws P x.key).length)
    (h1 : ∀ (i : Nat) (y : Int), i < a → (toksP ws P x.key)[i]? = some y → y < (q : Int) + 1) (h2 : ∀ (i : Nat) (y : Int), a ≤ i → (toksP ws P x.key)[i]? = some y → (q : Int) + 1 ≤ y) :
    toksP ws (withP P q) x.key = (toksP ws P x.key).take a ++ ((q : Int) + 1) :: (toksP ws P x.key).drop a := by
  have hp := toksP_pair ws P x.key
  have hnq : ((q : Int) + 1) ∉ toksP ws P x.key := fun h => by
    obtain ⟨i, y, _, g2, _, g4⟩ := toksP_mem.1 h
    obtain rfl : i = q := by omega
    rw [hP] at g2
    cases g2
  have hd : ∀ y ∈ (toksP ws P x.key).drop a, (q : Int) + 1 < y := fun y hy => by
    obtain ⟨i, hi⟩ := List.getElem?_of_mem hy
    rw [List.getElem?_drop] at hi
    have h3 := h2 (a + i) y (by omega) hi
    rcases Int.lt_or_eq_of_le h3 with h | h
    · exact h
    · exact absurd (h ▸ List.mem_of_getElem? hi) hnq
  have ht : ∀ y ∈ (toksP ws P x.key).take a, y < (q : Int) + 1 := fun y hy => by
    obtain ⟨i, hi⟩ := List.getElem?_of_mem hy
    rw [List.getElem?_take] at hi
    split at hi
    · rename_i h; exact h1 i y h hi
    · cases hi
  refine rise_unique (toksP_pair _ _ _) ?_ (fun t => ?_)
  · rw [List.pairwise_append]
    refine ⟨hp.sublist (List.take_sublist _ _), ?_, fun u hu v hv => ?_⟩
    · rw [List.pairwise_cons]
      exact ⟨hd, hp.sublist (List.drop_sublist _ _)⟩
    · have := ht u hu
      rcases List.mem_cons.1 hv with rfl | hv
      · exact this
      · have := hd v hv
        omega
  · have hmem : t ∈ (toksP ws P x.key).take a ++ ((q : Int) + 1) :: (toksP ws P x.key).drop a ↔ t = (q : Int) + 1 ∨ t ∈ toksP ws P x.key := by
      constructor
      · intro h
        rcases List.mem_append.1 h with h | h
        · exact .inr (List.mem_of_mem_take h)
        · rcases List.mem_cons.1 h with h | h
          · exact .inl h
          · exact .inr (List.mem_of_mem_drop h)
      · rintro (h | h)
        · rw [h]; simp
        · rw [← List.take_append_drop a (toksP ws P x.key), List.mem_append] at h
          rcases h with h | h
          · exact List.mem_append_left _ h
          · exact List.mem_append_right _ (List.mem_cons_of_mem _ h)
    rw [hmem, toksP_mem, toksP_mem]
    unfold withP
    constructor
    · rintro ⟨i, y, g1, g2, g3, rfl⟩
      by_cases hi : i = q
      · exact .inl (by rw [hi])
      · exact .inr ⟨i, y, g1, by simpa [hi] using g2, g3, rfl⟩
    · rintro (rfl | ⟨i, y, g1, g2, g3, rfl⟩)
      · exact ⟨q, x, hx, by simp, rfl, rfl⟩
      · exact ⟨i, y, g1, by simp [g2], g3, rfl⟩
/-- Where a token is struck. -/
theorem less_same {ws : List Wd} {P : Nat → Bool} {q : Nat} {x : Wd} (hx : ws[q]? = some x) {a : Nat} (ha : (toksP ws P x.key)[a]? = some ((q : Int) + 1)) : toksP ws (lessP P q) x.key = (toksP ws P x.key).eraseIdx a := by
  have hp := toksP_pair ws P x.key
  refine rise_unique (toksP_pair _ _ _) (hp.sublist (List.eraseIdx_sublist _ _)) (fun t => ?_)
  have hmem : t ∈ (toksP ws P x.key).eraseIdx a ↔ t ≠ (q : Int) + 1 ∧ t ∈ toksP ws P x.key := by
    rw [List.mem_eraseIdx_iff_getElem?]
    constructor
    · rintro ⟨i, hi, ht⟩
      refine ⟨fun e => ?_, List.mem_of_getElem? ht⟩
      subst e
      rcases Nat.lt_or_gt_of_ne hi with h | h
      · have := pair_rise hp i a _ _ h ht ha; omega
      · have := pair_rise hp a i _ _ h ha ht; omega
    · rintro ⟨hne, ht⟩
      obtain ⟨i, hi⟩ := List.getElem?_of_mem ht
      refine ⟨i, fun e => hne ?_, hi⟩
      subst e
      rw [ha] at hi
      injection hi with hi
      exact hi.symm
  rw [hmem, toksP_mem, toksP_mem]
  unfold lessP
  constructor
  · rintro ⟨i, y, g1, g2, g3, rfl⟩
    simp only [Bool.and_eq_true, decide_eq_true_eq] at g2
    exact ⟨by omega, i, y, g1, g2.1, g3, rfl⟩
  · rintro ⟨hne, i, y, g1, g2, g3, rfl⟩
    exact ⟨i, y, g1, by simp [g2]; omega, g3, rfl⟩
theorem in_toks {ws : List Wd} {P : Nat → Bool} {q : Nat} {x : Wd} (hx : ws[q]? = some x) (hP : P q = true) : ((q : Int) + 1) ∈ toksP ws P x.key := toksP_mem.2 ⟨q, x, hx, hP, rfl, rfl⟩
end Go.Proofs.Ytmhjnbolngdijaa
