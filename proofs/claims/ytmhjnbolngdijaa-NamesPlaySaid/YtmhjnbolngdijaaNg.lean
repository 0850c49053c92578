/- Names, whole, whichever of its words are laid. -/
import Derived.Test.YtmhjnbolngdijaaNobj
namespace Go.Proofs.Ytmhjnbolngdijaa
open Go Go.RowKit
set_option linter.unusedVariables false
attribute [local go_sem] Oper.semAt_some

/-- The row of a key, nil where there is none. -/
def mfOf (mf : Int × ByteArray → Option Value) (k : Int × ByteArray) : Value := (mf k).getD (.slice none 0 0)
/-- Names c: words ws, of which those of P are laid; its rows are its own. -/
structure Ng (w : World) (B c m : Nat) (wv ov : Value) (lists cur : Int) (order : List Int) (ws : List Wd) (P : Nat → Bool) (mf : Int × ByteArray → Option Value) : Prop where
  obj : NObj w c m wv ov lists cur
  words : w.ownsRow B 30 5 wv ws.length (ws.flatMap Wd.cells)
  map : MapK encN w m mf
  rows : ∀ k v, mf k = some v → OwnI w B v (toksP ws P k)
  none_ : ∀ k, mf k = none → toksP ws P k = []
  apart : ∀ k k' v v' b, mf k = some v → mf k' = some v' → k ≠ k' → v.ownBlock = some b → v'.ownBlock ≠ some b
  ord : OwnI w B ov order
  ordA : ∀ k v b, mf k = some v → v.ownBlock = some b → ov.ownBlock ≠ some b
  lo : B ≤ c ∧ B ≤ m ∧ B ≤ w.heap.size
  few : ws.length ≤ 5000
  byt : ∀ x ∈ ws, (∀ y ∈ x.name, 0 ≤ y ∧ y ≤ 255) ∧ x.name.length ≤ 1000000

/-- The blocks of names. -/
def NgIn (c m : Nat) (wv ov : Value) (mf : Int × ByteArray → Option Value) (k : Nat) : Prop := k = c ∨ k = m ∨ wv.ownBlock = some k ∨ ov.ownBlock = some k ∨ ∃ key v, mf key = some v ∧ v.ownBlock = some k

section
variable {w w' : World} {B c m : Nat} {wv ov : Value} {lists cur : Int} {order : List Int} {ws : List Wd} {P : Nat → Bool} {mf : Int × ByteArray → Option Value}
theorem Ng.in_lo (h : Ng w B c m wv ov lists cur order ws P mf) {k : Nat} (hk : NgIn c m wv ov mf k) : B ≤ k ∧ k < w.heap.size := by
  rcases hk with rfl | rfl | hk | hk | ⟨key, v, h1, hk⟩
  · exact ⟨h.lo.1, h.obj.blk.lt⟩
  · exact ⟨h.lo.2.1, h.map.lt⟩
  · exact own_lo h.words k hk
  · exact own_lo h.ord k hk
  · exact own_lo (h.rows key v h1) k hk
theorem Ng.fr {S : Nat → Prop} (h : Ng w B c m wv ov lists cur order ws P mf) (hf : Fr S w w') (hS : ∀ k, NgIn c m wv ov mf k → ¬ S k) : Ng w' B c m wv ov lists cur order ws P mf :=
  ⟨h.obj.blk.fr hf (hS _ (.inl rfl)), own_fr h.words hf (fun k hk => hS k (.inr (.inr (.inl hk)))), h.map.fr hf (hS _ (.inr (.inl rfl))), fun key v hk => (h.rows key v hk).fr hf (fun b hb => hS b (.inr (.inr (.inr (.inr ⟨key, v, hk, hb⟩))))), h.none_, h.apart, h.ord.fr hf (fun b hb => hS b (.inr (.inr (.inr (.inl hb))))), h.ordA, ⟨h.lo.1, h.lo.2.1, Nat.le_trans h.lo.2.2 hf.size⟩, h.few, h.byt⟩
theorem Ng.fr0 (h : Ng w B c m wv ov lists cur order ws P mf) (hf : Fr0 w w') : Ng w' B c m wv ov lists cur order ws P mf := h.fr hf fun _ _ x => x
theorem Ng.cells (h : Ng w B c m wv ov lists cur order ws P mf) : w.cell? ⟨c, 0, none⟩ = some wv ∧ w.cell? ⟨c, 1, none⟩ = some (.int .i64 lists) ∧ w.cell? ⟨c, 2, none⟩ = some ov ∧ w.cell? ⟨c, 3, none⟩ = some (.int .i64 cur) ∧ w.cell? ⟨c, 4, none⟩ = some (.map (some m)) := h.obj.cells
theorem Ng.ne_mc (h : Ng w B c m wv ov lists cur order ws P mf) : m ≠ c := h.map.ne_ h.obj.blk
theorem Ng.congr (h : Ng w B c m wv ov lists cur order ws P mf) {P' : Nat → Bool} (he : ∀ k, toksP ws P' k = toksP ws P k) : Ng w B c m wv ov lists cur order ws P' mf :=
  ⟨h.obj, h.words, h.map, fun k v hk => by rw [he]; exact h.rows k v hk, fun k hk => by rw [he]; exact h.none_ k hk, h.apart, h.ord, h.ordA, h.lo, h.few, h.byt⟩
theorem Ng.wform (h : Ng w B c m wv ov lists cur order ws P mf) : ∃ A cap, wv = .slice A ws.length cap := by
  obtain ⟨_, A, cap, e, _⟩ := own_src h.words
  exact ⟨A, cap, e⟩
theorem words_cells {w : World} {B : Nat} {wv : Value} {ws : List Wd} {t : TypeId} (h : w.ownsRow B t 5 wv ws.length (ws.flatMap Wd.cells)) {i : Nat} {x : Wd} (hx : ws[i]? = some x) : ∃ b cap, wv = .slice (some ⟨b, 0, none⟩) ws.length cap ∧ B ≤ b ∧ w.cell? ⟨b, i * 5, none⟩ = some (.string (strOfNums x.name)) ∧ w.cell? ⟨b, i * 5 + 1, none⟩ = some (.int .i64 x.xt) ∧ w.cell? ⟨b, i * 5 + 2, none⟩ = some (.int .i64 x.list) ∧ w.cell? ⟨b, i * 5 + 3, none⟩ = some (.bool x.imm) ∧ w.cell? ⟨b, i * 5 + 4, none⟩ = some (.bool x.only) := by
  have hi : i < ws.length := (List.getElem?_eq_some_iff.1 hx).1
  rcases h.2 with ⟨e, e0⟩ | ⟨g, cap, cs, e, hb, hg, hle, _, hsz, htk⟩
  · omega
  · have hc : ∀ j, j < 5 → w.cell? ⟨g, i * 5 + j, none⟩ = x.cells[j]? := fun j hj => by
      rw [cell_of_row w g (i * 5 + j) cs _ _ hg]
      have e1 := flat_at hx hj
      rw [← htk, List.getElem?_take, if_pos (by omega)] at e1
      rw [← e1, Array.getElem?_toList]
    exact ⟨g, cap, e, hb, hc 0 (by omega), hc 1 (by omega), hc 2 (by omega), hc 3 (by omega), hc 4 (by omega)⟩
theorem Ng.mf_own (h : Ng w B c m wv ov lists cur order ws P mf) (k : Int × ByteArray) : OwnI w B (mfOf mf k) (toksP ws P k) := by
  unfold mfOf
  cases hk : mf k with
  | none => rw [h.none_ k hk]; exact OwnI.nil _ _
  | some v => exact h.rows k v hk
theorem Ng.look (h : Ng w B c m wv ov lists cur order ws P mf) (k : Int × ByteArray) : (Instr.lookup 77 (.map (some m)) (.agg #[.int .i64 k.1, .string k.2]) false).run Try.prog w = .ok (mfOf mf k) w := by
  have := run_lookupK (P := Try.prog) keysN Try.underlying77 h.map (z := .slice none 0 0) sliceZero k
  rw [show encN k = .agg #[.int .i64 k.1, .string k.2] from rfl] at this
  exact this
theorem mfOf_in {key : Int × ByteArray} {k : Nat} (e : (mfOf mf key).ownBlock = some k) : NgIn c m wv ov mf k := by
  unfold mfOf at e
  cases hk : mf key with
  | none => rw [hk] at e; cases e
  | some v => rw [hk] at e; exact .inr (.inr (.inr (.inr ⟨key, v, hk, e⟩)))
/-- What turning the row of one key leaves. -/
theorem Ng.upd (h : Ng w B c m wv ov lists cur order ws P mf) {key : Int × ByteArray} {v' : Value} {P' : Nat → Bool} (ho : ∀ k, k ≠ key → toksP ws P' k = toksP ws P k) (hv : OwnI w' B v' (toksP ws P' key))
    (hf : Fr (fun k => k = m ∨ (mfOf mf key).ownBlock = some k) w w') (hm : MapK encN w' m (fun j => if j = key then some v' else mf j))
    (hk : v'.ownBlock = (mfOf mf key).ownBlock ∨ ∃ g, v'.ownBlock = some g ∧ w.heap.size ≤ g) : Ng w' B c m wv ov lists cur order ws P' (fun j => if j = key then some v' else mf j) := by
  have hown := h.mf_own key
  have hoth : ∀ k v b, mf k = some v → k ≠ key → v.ownBlock = some b → ¬ (b = m ∨ (mfOf mf key).ownBlock = some b) := fun k v b hv1 hk2 hb hh => by
    rcases hh with rfl | hh
    · exact map_int_own (h.rows k v hv1) h.map hb
    · unfold mfOf at hh
      cases he : mf key with
      | none => rw [he] at hh; cases hh
      | some v2 => rw [he] at hh; exact h.apart k key v v2 b hv1 he hk2 hb hh
  have hnew : ∀ b, v'.ownBlock = some b → ∀ {u : Value} {zs : List Int}, OwnI w B u zs → u.ownBlock = some b → (mfOf mf key).ownBlock = some b := fun b hb u zs ho hu => by
    rcases hk with hk | ⟨g, hg, hge⟩
    · rw [← hk]; exact hb
    · rw [hg] at hb
      injection hb with hb
      have := (own_lo ho b hu).2
      omega
  have hordk : (mfOf mf key).ownBlock = none ∨ ∃ v2, mf key = some v2 ∧ mfOf mf key = v2 := by
    unfold mfOf
    cases he : mf key with
    | none => exact .inl rfl
    | some v2 => exact .inr ⟨v2, rfl, rfl⟩
  refine ⟨h.obj.blk.fr hf (fun e => e.elim (fun e => h.ne_mc e.symm) (blk_int_own hown h.obj.blk (by decide))), own_fr h.words hf (fun k hk2 e => e.elim (fun e => word_map h.words h.map (e ▸ hk2)) (fun e => ?_)), hm, fun k v hv1 => ?_, fun k hv1 => ?_, fun k k' u u' b h1 h2 hne hb hb' => ?_, h.ord.fr hf (fun k hk2 e => e.elim (fun e => map_int_own h.ord h.map (e ▸ hk2)) (fun e => ?_)), fun k u b hu hb => ?_, ⟨h.lo.1, h.lo.2.1, Nat.le_trans h.lo.2.2 hf.size⟩, h.few, h.byt⟩
  · exact int_word hown h.words k e hk2
  · skip
    by_cases hk2 : k = key
    · rw [if_pos hk2] at hv1
      injection hv1 with hv1
      rw [← hv1, hk2]
      exact hv
    · rw [if_neg hk2] at hv1
      rw [ho k hk2]
      exact (h.rows k v hv1).fr hf (fun b hb => hoth k v b hv1 hk2 hb)
  · skip
    by_cases hk2 : k = key
    · rw [if_pos hk2] at hv1; cases hv1
    · rw [if_neg hk2] at hv1
      rw [ho k hk2]
      exact h.none_ k hv1
  · skip
    by_cases hk1 : k = key
    · have hk3 : k' ≠ key := fun e => hne (hk1.trans e.symm)
      rw [if_pos hk1] at h1
      rw [if_neg hk3] at h2
      injection h1 with h1
      subst h1
      exact hoth k' u' b h2 hk3 hb' (.inr (hnew b hb (h.rows k' u' h2) hb'))
    · rw [if_neg hk1] at h1
      by_cases hk3 : k' = key
      · rw [if_pos hk3] at h2
        injection h2 with h2
        subst h2
        exact hoth k u b h1 hk1 hb (.inr (hnew b hb' (h.rows k u h1) hb))
      · rw [if_neg hk3] at h2
        exact h.apart k k' u u' b h1 h2 hne hb hb'
  · rcases hordk with hh | ⟨v2, hh, hh2⟩
    · rw [hh] at e; cases e
    · rw [hh2] at e
      exact h.ordA key v2 k hh e hk2
  · intro hov
    by_cases hk2 : k = key
    · rw [if_pos hk2] at hu
      injection hu with hu
      subst hu
      have h3 := hnew b hb h.ord hov
      rcases hordk with hh | ⟨v2, hh, hh2⟩
      · rw [hh] at h3; cases h3
      · rw [hh2] at h3
        exact h.ordA key v2 b hh h3 hov
    · rw [if_neg hk2] at hu
      exact h.ordA k u b hu hb hov
theorem Ng.upd_in (h : Ng w B c m wv ov lists cur order ws P mf) {key : Int × ByteArray} {v' : Value} {n : Nat} (hv : v'.ownBlock = (mfOf mf key).ownBlock ∨ ∃ g, v'.ownBlock = some g ∧ n ≤ g) {k : Nat} (hk : NgIn c m wv ov (fun j => if j = key then some v' else mf j) k) : NgIn c m wv ov mf k ∨ n ≤ k := by
  rcases hk with h | h | h | h | ⟨key2, v, h, h2⟩
  · exact .inl (.inl h)
  · exact .inl (.inr (.inl h))
  · exact .inl (.inr (.inr (.inl h)))
  · exact .inl (.inr (.inr (.inr (.inl h))))
  · dsimp only at h
    by_cases he : key2 = key
    · rw [if_pos he] at h
      injection h with h
      subst h
      rcases hv with hv | ⟨g, hv, hg⟩
      · rw [hv] at h2
        exact .inl (mfOf_in h2)
      · rw [hv] at h2
        injection h2 with h2
        exact .inr (h2 ▸ hg)
    · rw [if_neg he] at h
      exact .inl (.inr (.inr (.inr (.inr ⟨key2, v, h, h2⟩))))
end
/-- What a call turns of what is its own, and what is its own behind it. -/
def Turn (S S' : Nat → Prop) (w w' : World) : Prop := Fr S w w' ∧ ∀ k, S' k → S k ∨ w.heap.size ≤ k
theorem Turn.refl (S : Nat → Prop) (w : World) : Turn S S w w := ⟨Fr.refl _ _, fun k h => .inl h⟩
theorem Turn.trans {S S' S'' : Nat → Prop} {a b w : World} (h : Turn S S' a b) (k : Turn S' S'' b w) : Turn S S'' a w :=
  ⟨h.1.then k.1 (fun i hi hs => (h.2 i hs).resolve_right (by omega)), fun i hi => by
    rcases k.2 i hi with h1 | h1
    · exact h.2 i h1
    · exact .inr (Nat.le_trans h.1.size h1)⟩
theorem Turn.of0 {S : Nat → Prop} {w w' : World} (h : Fr0 w w') : Turn S S w w' := ⟨h.of0, fun k h => .inl h⟩
end Go.Proofs.Ytmhjnbolngdijaa
