/- The document's data space: what 'reach' answers. -/
import Derived.Test.YtmkpoemjikdoeaaSpFill
import Derived.Test.YtmkpoemjikdoeaaMove
namespace Go.Proofs.Ytmkpoemjikdoeaa
open Go Go.RowKit

/-- Block p is the document's space whose bytes are the list bs in block g. -/
structure RSp (w : World) (p g : Nat) (bs : List Int) (here last : Int) : Prop where
  obj : Blk w p 70 #[.slice (some ⟨g, 0, none⟩) bs.length bs.length, .int .i64 here, .int .i64 last]
  row : Blk w g 5 (cells8 bs)
  byt : Bytes bs
  len : bs.length ≤ 2000000

section
variable {w w' : World} {p g : Nat} {bs : List Int} {here last : Int}
theorem RSp.ne (h : RSp w p g bs here last) : p ≠ g := h.obj.ne_ h.row (by decide)
theorem RSp.fr {S : Nat → Prop} (h : RSp w p g bs here last) (hb : Fr S w w') (hp : ¬ S p) (hg : ¬ S g) : RSp w' p g bs here last :=
  ⟨h.obj.fr hb hp, h.row.fr hb hg, h.byt, h.len⟩
theorem RSp.fr0 (h : RSp w p g bs here last) (hb : Fr0 w w') : RSp w' p g bs here last := h.fr hb (fun x => x) (fun x => x)
theorem RSp.alloc (h : RSp w p g bs here last) (o : Obj) : RSp (w.alloc o) p g bs here last := ⟨h.obj.alloc o, h.row.alloc o, h.byt, h.len⟩
theorem RSp.row_ (h : RSp w p g bs here last) (hf : Fr1 g w w') (cs : List Int) (hl : cs.length = bs.length) (hb : Bytes cs) (hr : Blk w' g 5 (cells8 cs)) : RSp w' p g cs here last :=
  ⟨by rw [hl]; exact h.obj.fr hf h.ne, hr, hb, by rw [hl]; exact h.len⟩

set_option maxHeartbeats 400000 in
theorem EndR (w : World) (h : RSp w p g bs here last) :
    Calls Try.prog 45 #[.pointer (some ⟨p, 0, none⟩)] w fun e w' => e = .returned (.int .i64 (65536 + bs.length)) ∧ w = w' := by
  have h1 := h.obj.cell 0
  simp at h1
  have hl := h.len
  go_enter Try.func45, Try.ntmps45
  go_wp2
  go_ret
  exact ⟨rfl, rfl⟩

/-- What the document's reach throws. -/
def rwT (L : Nat) (a n k : Int) (wr : Bool) : Int := reachT L a n (orT (alignT k a) (if wr then openT a n else 0))

set_option maxHeartbeats 2000000 in
theorem reachR (a n k : Int) (wr : Bool) (w : World) (h : RSp w p g bs here last) (ha : i64 a) (hn : i64 n) (hk : k = 1 ∨ k = 4 ∨ k = 8) :
    Calls Try.prog 39 #[.pointer (some ⟨p, 0, none⟩), .int .i64 a, .int .i64 n, .int .i64 k, .bool wr] w fun e w' => e = .returned (.int .i64 (rwT bs.length a n k wr)) ∧ w = w' := by
  have HE := Lib.hid (EndR w h)
  have hl := h.len
  obtain ⟨ha1, ha2⟩ := ha
  obtain ⟨hn1, hn2⟩ := hn
  clear h
  generalize bs.length = L at *
  by_cases h1 : n < 0
  · have ht : rwT L a n k wr = -9 := by unfold rwT reachT; rw [if_pos h1]
    rw [ht]
    clear ht
    go_enter Try.func39, Try.ntmps39
    go_wp2
    go_ret
    exact ⟨rfl, rfl⟩
  by_cases h2 : n = 0
  · have ht : rwT L a n k wr = 0 := by unfold rwT reachT; rw [if_neg h1, if_pos h2]
    rw [ht]
    subst h2
    clear ht
    go_enter Try.func39, Try.ntmps39
    go_wp2
    go_ret
    exact ⟨rfl, rfl⟩
  have hn0 : (n == 0) = false := by simp [h2]
  have hnp : 0 ≤ n := by omega
  by_cases hin : 65536 ≤ a ∧ a + n ≤ 65536 + L
  · obtain ⟨k1, k2⟩ := hin
    have ht : rwT L a n k wr = orT (alignT k a) (if wr then openT a n else 0) := by unfold rwT reachT; rw [if_neg h1, if_neg h2, if_pos ⟨k1, k2⟩]
    rw [ht]
    have k3 : a < 65536 + L := by omega
    have k4 : n ≤ 65536 + L - a := by omega
    clear ht h1 h2
    by_cases hal : alignT k a = 0
    · have hor : orT (alignT k a) (if wr then openT a n else 0) = if wr then openT a n else 0 := by unfold orT; rw [if_pos hal]
      rw [hor]
      have hmod : k = 1 ∨ (a % k != 0) = false := by
        rcases hk with rfl | rfl | rfl
        · exact .inl rfl
        · right; unfold alignT at hal; split at hal <;> simp_all
        · right; unfold alignT at hal; split at hal <;> simp_all
      clear hor hal
      have hop : (openT a n = -20 ∧ a < 65544 ∧ 65536 < a + n) ∨ (openT a n = 0 ∧ a < 65544 ∧ a + n ≤ 65536) ∨ (openT a n = 0 ∧ 65544 ≤ a) := by
        unfold openT
        by_cases q1 : a < 65544
        · by_cases q2 : 65536 < a + n
          · exact .inl ⟨by rw [if_pos ⟨q1, q2⟩], q1, q2⟩
          · exact .inr (.inl ⟨by rw [if_neg (by omega)], q1, by omega⟩)
        · exact .inr (.inr ⟨by rw [if_neg (by omega)], by omega⟩)
      generalize openT a n = T at *
      rcases hk with rfl | rfl | rfl
      · clear hmod
        cases wr
        · simp only [Bool.false_eq_true, if_false]
          clear hop
          go_enter Try.func39, Try.ntmps39
          go_wp2_with (go_at_call 45; refine HE.out.mono ?_; rintro e w' ⟨rfl, rfl⟩)
          go_ret
          exact ⟨rfl, rfl⟩
        · simp only [if_true]
          rcases hop with ⟨rfl, q1, q2⟩ | ⟨rfl, q1, q2⟩ | ⟨rfl, q1⟩
          all_goals
            go_enter Try.func39, Try.ntmps39
            go_wp2_with (go_at_call 45; refine HE.out.mono ?_; rintro e w' ⟨rfl, rfl⟩)
            go_ret
            exact ⟨rfl, rfl⟩
      all_goals
        have hm := hmod.resolve_left (by decide)
        clear hmod
        cases wr
        · simp only [Bool.false_eq_true, if_false]
          clear hop
          go_enter Try.func39, Try.ntmps39
          go_wp2_with (go_at_call 45; refine HE.out.mono ?_; rintro e w' ⟨rfl, rfl⟩)
          go_ret
          exact ⟨rfl, rfl⟩
        · simp only [if_true]
          rcases hop with ⟨rfl, q1, q2⟩ | ⟨rfl, q1, q2⟩ | ⟨rfl, q1⟩
          all_goals
            go_enter Try.func39, Try.ntmps39
            go_wp2_with (go_at_call 45; refine HE.out.mono ?_; rintro e w' ⟨rfl, rfl⟩)
            go_ret
            exact ⟨rfl, rfl⟩
    · have hor : orT (alignT k a) (if wr then openT a n else 0) = -23 := by unfold orT; rw [if_neg hal]; unfold alignT at hal ⊢; split at hal <;> simp_all
      rw [hor]
      have hmod : k ≠ 1 ∧ (a % k != 0) = true := by
        unfold alignT at hal
        split at hal
        · exact absurd rfl hal
        · rename_i hne
          exact ⟨by rintro rfl; omega, by simpa using hne⟩
      obtain ⟨hk1, hm⟩ := hmod
      clear hor hal
      rcases hk with rfl | rfl | rfl
      · exact absurd rfl hk1
      all_goals
        clear hk1
        go_enter Try.func39, Try.ntmps39
        go_wp2_with (go_at_call 45; refine HE.out.mono ?_; rintro e w' ⟨rfl, rfl⟩)
        go_ret
        exact ⟨rfl, rfl⟩
  · have ht : rwT L a n k wr = -9 := by unfold rwT reachT; rw [if_neg h1, if_neg h2, if_neg hin]
    rw [ht]
    have hc : a < 65536 ∨ (65536 ≤ a ∧ 65536 + L ≤ a) ∨ (65536 ≤ a ∧ a < 65536 + L ∧ 65536 + L - a < n) := by omega
    clear ht h1 h2 hin
    rcases hc with q1 | ⟨q1, q2⟩ | ⟨q1, q2, q3⟩
    all_goals
      go_enter Try.func39, Try.ntmps39
      go_wp2_with (go_at_call 45; refine HE.out.mono ?_; rintro e w' ⟨rfl, rfl⟩)
      go_ret
      exact ⟨rfl, rfl⟩
end
end Go.Proofs.Ytmkpoemjikdoeaa
