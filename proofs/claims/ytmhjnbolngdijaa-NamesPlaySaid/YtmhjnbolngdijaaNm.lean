/- Names: where they stand. -/
import Derived.Test.YtmhjnbolngdijaaNins
import Derived.Test.YtmhjnbolngdijaaNplace
import Derived.Test.YtmhjnbolngdijaaMapN
namespace Go.Proofs.Ytmhjnbolngdijaa
open Go Go.RowKit
set_option linter.unusedVariables false

/-- A word. -/
structure Wd where
  name : List Int
  xt : Int
  list : Int
  imm : Bool
  only : Bool
def Wd.cells (x : Wd) : List Value := [.string (strOfNums x.name), .int .i64 x.xt, .int .i64 x.list, .bool x.imm, .bool x.only]
def Wd.val (x : Wd) : Value := .agg #[.string (strOfNums x.name), .int .i64 x.xt, .int .i64 x.list, .bool x.imm, .bool x.only]
def Wd.key (x : Wd) : Int × ByteArray := (x.list, strOfNums (lowL x.name))
/-- The tokens of a key, rising. -/
def toksOf (ws : List Wd) (k : Int × ByteArray) : List Int := (ws.zipIdx.filter fun p => decide (p.1.key = k)).map fun p => (p.2 : Int) + 1
theorem toksOf_snoc (ws : List Wd) (x : Wd) (k : Int × ByteArray) : toksOf (ws ++ [x]) k = toksOf ws k ++ if x.key = k then [(ws.length : Int) + 1] else [] := by
  unfold toksOf
  rw [List.zipIdx_append, List.filter_append, List.map_append]
  congr 1
  by_cases h : x.key = k <;> simp [h]
theorem toksOf_nil (k : Int × ByteArray) : toksOf [] k = [] := rfl
theorem toksOf_mem {ws : List Wd} {k : Int × ByteArray} {t : Int} (h : t ∈ toksOf ws k) : 1 ≤ t ∧ t ≤ ws.length := by
  obtain ⟨p, hp, rfl⟩ := List.mem_map.1 h
  have := (List.mem_filter.1 hp).1
  have h2 := List.mem_zipIdx this
  omega
theorem toksOf_len (ws : List Wd) (k : Int × ByteArray) : (toksOf ws k).length ≤ ws.length := by
  unfold toksOf
  rw [List.length_map]
  refine Nat.le_trans (List.length_filter_le _ _) ?_
  simp
theorem toksOf_rise (ws : List Wd) (k : Int × ByteArray) : ∀ (i j : Nat) (x y : Int), i < j → (toksOf ws k)[i]? = some x → (toksOf ws k)[j]? = some y → x < y := by
  have hp : (toksOf ws k).Pairwise (· < ·) := by
    unfold toksOf
    rw [List.pairwise_map]
    have h1 : ws.zipIdx.Pairwise (fun a b => a.2 < b.2) := by
      rw [List.pairwise_iff_getElem]
      intro i j hi hj hij
      simp
      exact hij
    exact (h1.filter _).imp fun h => by omega
  intro i j x y hij hx hy
  obtain ⟨hi, rfl⟩ := List.getElem?_eq_some_iff.1 hx
  obtain ⟨hj, rfl⟩ := List.getElem?_eq_some_iff.1 hy
  exact List.pairwise_iff_getElem.1 hp i j hi hj hij

/-- Names c: words ws, of which the first q are laid; its rows are its own. -/
structure Nm (w : World) (B c m : Nat) (wv ov : Value) (lists cur : Int) (order : List Int) (ws : List Wd) (q : Nat) (tv : Int × ByteArray → Value) : Prop where
  obj : Blk w c 79 #[wv, .int .i64 lists, ov, .int .i64 cur, .map (some m)]
  words : w.ownsRow B 30 5 wv ws.length (ws.flatMap Wd.cells)
  map : MapK encN w m (fun k => if toksOf (ws.take q) k = [] then none else some (tv k))
  rows : ∀ k, toksOf (ws.take q) k ≠ [] → OwnI w B (tv k) (toksOf (ws.take q) k)
  apart : ∀ k k' b, toksOf (ws.take q) k ≠ [] → toksOf (ws.take q) k' ≠ [] → k ≠ k' → (tv k).ownBlock = some b → (tv k').ownBlock ≠ some b
  ord : OwnI w B ov order
  ordA : ∀ k b, toksOf (ws.take q) k ≠ [] → (tv k).ownBlock = some b → ov.ownBlock ≠ some b
  lo : B ≤ c ∧ B ≤ m ∧ B ≤ w.heap.size
  few : ws.length ≤ 5000
  byt : ∀ x ∈ ws, (∀ y ∈ x.name, 0 ≤ y ∧ y ≤ 255) ∧ x.name.length ≤ 1000000

section
variable {w w' : World} {B c m q : Nat} {wv ov : Value} {lists cur : Int} {order : List Int} {ws : List Wd} {tv : Int × ByteArray → Value}
theorem blk_int_own {w : World} {B k : Nat} {u : Value} {xs : List Int} {t : TypeId} {cs : Array Value} (h : OwnI w B u xs) (hb : Blk w k t cs) (ht : t ≠ 3) : u.ownBlock ≠ some k := by
  intro hk
  rcases h.2 with ⟨rfl, _⟩ | ⟨b, cap, cur, rfl, _, hc, _⟩
  · cases hk
  · simp only [Value.ownBlock, Option.some.injEq] at hk
    subst hk
    have hB : Blk w b 3 cur := hc
    exact hb.ne_ hB ht rfl
theorem map_int_own {w : World} {B k : Nat} {u : Value} {xs : List Int} {f : Int × ByteArray → Option Value} (h : OwnI w B u xs) (hb : MapK encN w k f) : u.ownBlock ≠ some k := by
  intro hk
  rcases h.2 with ⟨rfl, _⟩ | ⟨b, cap, cur, rfl, _, hc, _⟩
  · cases hk
  · simp only [Value.ownBlock, Option.some.injEq] at hk
    subst hk
    have hB : Blk w b 3 cur := hc
    exact hb.ne_ hB rfl
theorem word_own {w : World} {B k n : Nat} {u : Value} {xs : List Value} {t : TypeId} {cs : Array Value} (h : w.ownsRow B 30 5 u n xs) (hb : Blk w k t cs) (ht : t ≠ 30) : u.ownBlock ≠ some k := by
  intro hk
  rcases h.2 with ⟨rfl, _⟩ | ⟨b, cap, cur, rfl, _, hc, _⟩
  · cases hk
  · simp only [Value.ownBlock, Option.some.injEq] at hk
    subst hk
    have hB : Blk w b 30 cur := hc
    exact hb.ne_ hB ht rfl
theorem word_map {w : World} {B k n : Nat} {u : Value} {xs : List Value} {f : Int × ByteArray → Option Value} (h : w.ownsRow B 30 5 u n xs) (hb : MapK encN w k f) : u.ownBlock ≠ some k := by
  intro hk
  rcases h.2 with ⟨rfl, _⟩ | ⟨b, cap, cur, rfl, _, hc, _⟩
  · cases hk
  · simp only [Value.ownBlock, Option.some.injEq] at hk
    subst hk
    have hB : Blk w b 30 cur := hc
    exact hb.ne_ hB rfl
/-- Nothing of its own turned. -/
theorem Nm.fr0 (h : Nm w B c m wv ov lists cur order ws q tv) (hf : Fr0 w w') : Nm w' B c m wv ov lists cur order ws q tv :=
  ⟨h.obj.fr0 hf, own_fr h.words hf (fun _ _ x => x), h.map.fr hf (fun x => x), fun k hk => (h.rows k hk).fr hf (fun _ _ x => x), h.apart, h.ord.fr hf (fun _ _ x => x), h.ordA, ⟨h.lo.1, h.lo.2.1, Nat.le_trans h.lo.2.2 hf.size⟩, h.few, h.byt⟩
theorem Nm.cells (h : Nm w B c m wv ov lists cur order ws q tv) : w.cell? ⟨c, 0, none⟩ = some wv ∧ w.cell? ⟨c, 1, none⟩ = some (.int .i64 lists) ∧ w.cell? ⟨c, 2, none⟩ = some ov ∧ w.cell? ⟨c, 3, none⟩ = some (.int .i64 cur) ∧ w.cell? ⟨c, 4, none⟩ = some (.map (some m)) :=
  ⟨h.obj.cell 0, h.obj.cell 1, h.obj.cell 2, h.obj.cell 3, h.obj.cell 4⟩
theorem Nm.ne_mc (h : Nm w B c m wv ov lists cur order ws q tv) : m ≠ c := h.map.ne_ h.obj
/-- The words' own slice. -/
theorem Nm.wform (h : Nm w B c m wv ov lists cur order ws q tv) : ∃ A cap, wv = .slice A ws.length cap := by
  obtain ⟨_, A, cap, e, _⟩ := own_src h.words
  exact ⟨A, cap, e⟩
theorem flat_at {l : List Wd} {i j : Nat} {x : Wd} (hi : l[i]? = some x) (hj : j < 5) : (l.flatMap Wd.cells)[i * 5 + j]? = x.cells[j]? := by
  induction l generalizing i with
  | nil => simp at hi
  | cons a l ih =>
    rw [List.flatMap_cons]
    have hl : a.cells.length = 5 := rfl
    cases i with
    | zero =>
      simp at hi
      subst hi
      rw [List.getElem?_append_left (by rw [hl]; omega)]
      congr 1
      omega
    | succ i =>
      rw [List.getElem?_append_right (by rw [hl]; omega), hl, show (i + 1) * 5 + j - 5 = i * 5 + j by omega]
      exact ih (by simpa using hi)
/-- The cells of a word. -/
theorem Nm.word (h : Nm w B c m wv ov lists cur order ws q tv) {i : Nat} {x : Wd} (hx : ws[i]? = some x) : ∃ b cap, wv = .slice (some ⟨b, 0, none⟩) ws.length cap ∧ w.cell? ⟨b, i * 5, none⟩ = some (.string (strOfNums x.name)) ∧ w.cell? ⟨b, i * 5 + 1, none⟩ = some (.int .i64 x.xt) ∧ w.cell? ⟨b, i * 5 + 2, none⟩ = some (.int .i64 x.list) ∧ w.cell? ⟨b, i * 5 + 3, none⟩ = some (.bool x.imm) ∧ w.cell? ⟨b, i * 5 + 4, none⟩ = some (.bool x.only) := by
  have hi : i < ws.length := (List.getElem?_eq_some_iff.1 hx).1
  rcases h.words.2 with ⟨e, e0⟩ | ⟨g, cap, cs, e, _, hg, hle, _, hsz, htk⟩
  · omega
  · have hc : ∀ j, j < 5 → w.cell? ⟨g, i * 5 + j, none⟩ = x.cells[j]? := fun j hj => by
      rw [cell_of_row w g (i * 5 + j) cs _ _ hg]
      have e1 := flat_at hx hj
      rw [← htk, List.getElem?_take, if_pos (by omega)] at e1
      rw [← e1, Array.getElem?_toList]
    exact ⟨g, cap, e, hc 0 (by omega), hc 1 (by omega), hc 2 (by omega), hc 3 (by omega), hc 4 (by omega)⟩
end
end Go.Proofs.Ytmhjnbolngdijaa
