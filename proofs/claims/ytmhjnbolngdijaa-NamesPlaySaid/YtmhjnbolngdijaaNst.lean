/- Names: the state that they stand for, zero ones too; New, none, the readers. -/
import Derived.Test.YtmhjnbolngdijaaNglay
namespace Go.Proofs.Ytmhjnbolngdijaa
open Go Go.RowKit
set_option linter.unusedVariables false
attribute [local go_sem] Oper.semAt_some

/-- What names hold. -/
structure St where
  lists : Int
  cur : Int
  order : List Int
  ws : List Wd
def initSt : St := ⟨1, 1, [1], []⟩
/-- Names c that have begun. -/
def NgI (w : World) (B c : Nat) (s : St) (S : Nat → Prop) : Prop := ∃ m wv ov mf, Ng w B c m wv ov s.lists s.cur s.order s.ws (fun _ => true) mf ∧ S = NgIn c m wv ov mf
/-- Names c that have not. -/
def NgZ (w : World) (c : Nat) : Prop := Blk w c 79 #[.slice none 0 0, .int .i64 0, .slice none 0 0, .int .i64 0, .map none]
/-- Names c. -/
def NgS (w : World) (B c : Nat) (s : St) (S : Nat → Prop) : Prop := NgI w B c s S ∨ (NgZ w c ∧ s = initSt ∧ S = (fun k => k = c) ∧ B ≤ c ∧ B ≤ w.heap.size)
section
variable {w w' : World} {B c : Nat} {s : St} {S T : Nat → Prop}
theorem NgI.lo (h : NgI w B c s S) {k : Nat} (hk : S k) : B ≤ k ∧ k < w.heap.size := by
  obtain ⟨m, wv, ov, mf, h, rfl⟩ := h
  exact h.in_lo hk
theorem NgI.self (h : NgI w B c s S) : S c := by
  obtain ⟨m, wv, ov, mf, h, rfl⟩ := h
  exact .inl rfl
theorem NgI.fr (h : NgI w B c s S) (hf : Fr T w w') (hS : ∀ k, S k → ¬ T k) : NgI w' B c s S := by
  obtain ⟨m, wv, ov, mf, h, rfl⟩ := h
  exact ⟨m, wv, ov, mf, h.fr hf hS, rfl⟩
theorem NgI.fr0 (h : NgI w B c s S) (hf : Fr0 w w') : NgI w' B c s S := h.fr hf fun _ _ x => x
theorem NgS.lo (h : NgS w B c s S) {k : Nat} (hk : S k) : B ≤ k ∧ k < w.heap.size := by
  rcases h with h | ⟨h, _, rfl, h1, h2⟩
  · exact h.lo hk
  · obtain rfl : k = c := hk
    exact ⟨h1, Blk.lt h⟩
theorem NgS.self (h : NgS w B c s S) : S c := by
  rcases h with h | ⟨h, _, rfl, h1, h2⟩
  · exact h.self
  · rfl
theorem NgS.fr (h : NgS w B c s S) (hf : Fr T w w') (hS : ∀ k, S k → ¬ T k) : NgS w' B c s S := by
  rcases h with h | ⟨h, h0, rfl, h1, h2⟩
  · exact .inl (h.fr hf hS)
  · exact .inr ⟨Blk.fr h hf (hS c rfl), h0, rfl, h1, Nat.le_trans h2 hf.size⟩
theorem NgS.fr0 (h : NgS w B c s S) (hf : Fr0 w w') : NgS w' B c s S := h.fr hf fun _ _ x => x

theorem ng_init {m : Nat} {ov : Value} (ho : NObj w c m (.slice none 0 0) ov 1 1) (hm : MapK encN w m (fun _ => none)) (hv : OwnI w B ov [1]) (hB : B ≤ c ∧ B ≤ m ∧ B ≤ w.heap.size) : Ng w B c m (.slice none 0 0) ov 1 1 [1] [] (fun _ => true) (fun _ => none) where
  obj := ho
  words := World.ownsRow_nil _ _ _ _
  map := hm
  rows := by
    intro k v hk
    cases hk
  none_ := fun k _ => rfl
  apart := by
    intro k k' v v' b hk
    cases hk
  ord := hv
  ordA := by
    intro k v b hk
    cases hk
  lo := hB
  few := by simp
  byt := fun x hx => by cases hx

set_option maxRecDepth 100000 in
theorem New_ng (w : World) : Calls Try.prog 10 #[] w fun e w' => ∃ c S, e = .returned (.pointer (some ⟨c, 0, none⟩)) ∧ NgI w' w.heap.size c initSt S ∧ Fr0 w w' := by
  refine (New_nm w).mono ?_
  rintro e w' ⟨c, m, ov, tv, rfl, hN, hf⟩
  have hnil : ∀ k, toksOf (([] : List Wd).take 0) k = [] := fun k => by rw [List.take_nil]; rfl
  exact ⟨c, _, rfl, ⟨m, .slice none 0 0, ov, fun _ => none, ng_init hN.obj (hN.map.congr (fun k => by rw [if_pos (hnil k)])) hN.ord hN.lo, rfl⟩, hf⟩

set_option maxRecDepth 100000 in
set_option maxHeartbeats 2000000 in
theorem begin_z (w : World) (h : NgZ w c) (h1 : B ≤ c) (h2 : B ≤ w.heap.size) : Calls Try.prog 32 #[.pointer (some ⟨c, 0, none⟩)] w fun e w' => e = .returned (.tuple #[]) ∧ ∃ S', NgI w' B c initSt S' ∧ Turn (fun k => k = c) S' w w' := by
  have hmm : ∀ W : World, (Instr.makeMap 77 none).run Try.prog W = .ok (.map (some W.heap.size)) (W.alloc (.map #[] 0)) := fun W => rfl
  have hmn := mapNil
  have hlt := Blk.lt h
  have c0 := Blk.cell h 0
  have c1 := Blk.cell h 1
  have c2 := Blk.cell h 2
  have c3 := Blk.cell h 3
  have c4 := Blk.cell h 4
  have f0 := Blk.frozen h 0
  have f1 := Blk.frozen h 1
  have f2 := Blk.frozen h 2
  have f3 := Blk.frozen h 3
  have f4 := Blk.frozen h 4
  have HH := Lib.hid h
  clear h
  go_enter Try.func32, Try.ntmps32
  go_wp2_with fail
  go_end0
  have hb5 := ((((HH.out.set_ 0 (.slice none 0 0)).set_ 1 (.int .i64 1)).set_ 2 (.slice (some ⟨w.heap.size, 0, none⟩) 1 1)).set_ 3 (.int .i64 1)).set_ 4 (.map (some (w.heap.size + 1)))
  simp only [List.setIfInBounds_toArray, List.set_cons_succ, List.set_cons_zero] at hb5
  have hf5 := (((((Fr.refl (fun k => k = c) w).setCell (p := ⟨c, 0, none⟩) (.inl rfl) (.slice none 0 0)).setCell (p := ⟨c, 1, none⟩) (.inl rfl) (.int .i64 1)).setCell (p := ⟨c, 2, none⟩) (.inl rfl) (.slice (some ⟨w.heap.size, 0, none⟩) 1 1)).setCell (p := ⟨c, 3, none⟩) (.inl rfl) (.int .i64 1)).setCell (p := ⟨c, 4, none⟩) (.inl rfl) (.map (some (w.heap.size + 1)))
  have hs5 : (((((w.setCell ⟨c, 0, none⟩ (.slice none 0 0)).setCell ⟨c, 1, none⟩ (.int .i64 1)).setCell ⟨c, 2, none⟩ (.slice (some ⟨w.heap.size, 0, none⟩) 1 1)).setCell ⟨c, 3, none⟩ (.int .i64 1)).setCell ⟨c, 4, none⟩ (.map (some (w.heap.size + 1)))).heap.size = w.heap.size := by simp [World.setCell]
  generalize (((((w.setCell ⟨c, 0, none⟩ (.slice none 0 0)).setCell ⟨c, 1, none⟩ (.int .i64 1)).setCell ⟨c, 2, none⟩ (.slice (some ⟨w.heap.size, 0, none⟩) 1 1)).setCell ⟨c, 3, none⟩ (.int .i64 1)).setCell ⟨c, 4, none⟩ (.map (some (w.heap.size + 1)))) = W5 at *
  have hr : Blk ((W5.alloc (.cells #[.int .i64 1] 3)).alloc (.map #[] 0)) w.heap.size 3 #[.int .i64 1] := by
    have := (Blk.new W5 3 #[.int .i64 1]).alloc (.map #[] 0)
    rw [hs5] at this
    exact this
  have hm : MapK encN ((W5.alloc (.cells #[.int .i64 1] 3)).alloc (.map #[] 0)) (w.heap.size + 1) (fun _ => none) := by
    have := MapK.made (enc := encN) (W5.alloc (.cells #[.int .i64 1] 3))
    rw [World.size_alloc, hs5] at this
    exact this
  have hff : Fr (fun k => k = c) w ((W5.alloc (.cells #[.int .i64 1] 3)).alloc (.map #[] 0)) := (hf5.alloc _).alloc _
  refine ⟨rfl, _, ⟨w.heap.size + 1, .slice none 0 0, _, fun _ => none, ng_init ((hb5.alloc _).alloc _) hm (ownI_mk h2 hr rfl (by simp) (by unfold maxLen; omega) (fun k x hx => ?_)) ⟨h1, by omega, Nat.le_trans h2 hff.size⟩, rfl⟩, hff, fun k hk => ?_⟩
  · cases k with
    | zero => simp at hx; subst hx; rfl
    | succ k => simp at hx
  · rcases hk with rfl | rfl | hk | hk | ⟨key, v, hk, _⟩
    · exact .inl rfl
    · exact .inr (by omega)
    · cases hk
    · simp [Value.ownBlock] at hk
      exact .inr (by omega)
    · cases hk

set_option maxRecDepth 100000 in
theorem none_ng (w : World) (h : NgS w B c s S) : Calls Try.prog 33 #[.pointer (some ⟨c, 0, none⟩)] w fun e w' => e = .returned (.bool false) ∧ ∃ S', NgI w' B c s S' ∧ Turn S S' w w' ∧ (NgI w B c s S → w = w') := by
  rcases h with h | ⟨h, rfl, rfl, h1, h2⟩
  · obtain ⟨m, wv, ov, mf, h', hS⟩ := id h
    refine (none_ob w h'.obj).mono ?_
    rintro e w' ⟨rfl, rfl⟩
    exact ⟨rfl, S, h, Turn.refl _ _, fun _ => rfl⟩
  · have HB := Lib.hid (begin_z w h h1 h2)
    have HNI : NgI w B c initSt (fun k => k = c) → False := fun hi => by
      obtain ⟨m, wv, ov, mf, hN, _⟩ := hi
      have h4 := hN.cells.2.2.2.2
      have h5 := Blk.cell h 4
      rw [h4] at h5
      simp at h5
    clear h h1 h2
    go_enter Try.func33, Try.ntmps33
    go_wp2_with (go_at_call 32; refine HB.out.mono ?_; rintro e w' ⟨rfl, S', h, ht⟩)
    go_ret
    exact ⟨rfl, S', h, ht, fun h => (HNI h).elim⟩
end
end Go.Proofs.Ytmhjnbolngdijaa
