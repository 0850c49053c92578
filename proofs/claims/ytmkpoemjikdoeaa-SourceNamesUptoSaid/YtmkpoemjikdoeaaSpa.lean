/- The program's data space: what its small functions answer. -/
import Derived.Test.YtmkpoemjikdoeaaPost
import Derived.Test.YtmkpoemjikdoeaaProg
import Derived.Test.YtmkpoemjikdoeaaLib
namespace Go.Proofs.Ytmkpoemjikdoeaa
open Go Go.RowKit

/-- Block p is a space whose bytes are the list bs in block g. -/
structure Sp (w : World) (p g : Nat) (bs : List Int) (dict here : Int) : Prop where
  obj : Blk w p 68 #[.slice (some ⟨g, 0, none⟩) bs.length bs.length, .int .i64 dict, .int .i64 here]
  row : Blk w g 5 (cells8 bs)
  byt : Bytes bs
  len : bs.length ≤ 2000000

section
variable {w w' : World} {p g : Nat} {bs : List Int} {dict here : Int}
theorem Sp.ne (h : Sp w p g bs dict here) : p ≠ g := h.obj.ne_ h.row (by decide)
theorem Sp.fr {S : Nat → Prop} (h : Sp w p g bs dict here) (hb : Fr S w w') (hp : ¬ S p) (hg : ¬ S g) : Sp w' p g bs dict here :=
  ⟨h.obj.fr hb hp, h.row.fr hb hg, h.byt, h.len⟩
theorem Sp.fr0 (h : Sp w p g bs dict here) (hb : Fr0 w w') : Sp w' p g bs dict here := h.fr hb (fun x => x) (fun x => x)
theorem Sp.alloc (h : Sp w p g bs dict here) (o : Obj) : Sp (w.alloc o) p g bs dict here := ⟨h.obj.alloc o, h.row.alloc o, h.byt, h.len⟩
end

set_option maxHeartbeats 400000 in
theorem all_any {p g : Nat} {bs : List Int} {dict here : Int} (w : World) (h : Sp w p g bs dict here) :
    Calls Try.prog 36 #[.pointer (some ⟨p, 0, none⟩)] w fun e w' => e = .returned (.slice (some ⟨g, 0, none⟩) bs.length bs.length) ∧ w = w' := by
  have h0 := h.obj.cell 0
  simp at h0
  go_enter Try.func36, Try.ntmps36
  go_wp2
  go_ret
  exact ⟨rfl, rfl⟩

set_option maxHeartbeats 400000 in
theorem none_any {p g : Nat} {bs : List Int} {dict here : Int} (w : World) (h : Sp w p g bs dict here) (hh : 1 ≤ here) :
    Calls Try.prog 44 #[.pointer (some ⟨p, 0, none⟩)] w fun e w' => e = .returned (.bool false) ∧ w = w' := by
  have h0 := h.obj.cell 2
  simp at h0
  have hz : (here == 0) = false := by simp; omega
  go_enter Try.func44, Try.ntmps44
  go_wp2
  go_ret
  exact ⟨rfl, rfl⟩

set_option maxHeartbeats 400000 in
theorem End_any {p g : Nat} {bs : List Int} {dict here : Int} (w : World) (h : Sp w p g bs dict here) (hh : 1 ≤ here) :
    Calls Try.prog 38 #[.pointer (some ⟨p, 0, none⟩)] w fun e w' => e = .returned (.int .i64 (65536 + bs.length)) ∧ w = w' := by
  have h1 := h.obj.cell 0
  simp at h1
  have hl := h.len
  go_enter Try.func38, Try.ntmps38
  go_wp2_with (go_at_call 44; refine (none_any _ h hh).mono ?_; rintro e w' ⟨rfl, rfl⟩)
  go_ret
  exact ⟨rfl, rfl⟩

/-- Is a locked byte among the n from a on? -/
def openT (a n : Int) : Int := if a < 65544 ∧ 65536 < a + n then -20 else 0
set_option maxHeartbeats 400000 in
theorem open_any (a n : Int) (w : World) (h1 : 65536 ≤ a) (h2 : a ≤ 100000000) (h3 : 0 ≤ n) (h4 : n ≤ 100000000) :
    Calls Try.prog 31 #[.int .i64 a, .int .i64 n] w fun e w' => e = .returned (.int .i64 (openT a n)) ∧ w = w' := by
  unfold openT
  by_cases k1 : a < 65544
  · by_cases k2 : 65536 < a + n
    · rw [if_pos ⟨k1, k2⟩]
      go_enter Try.func31, Try.ntmps31
      go_wp2
      go_ret
      exact ⟨rfl, rfl⟩
    · rw [if_neg (by omega)]
      go_enter Try.func31, Try.ntmps31
      go_wp2
      go_ret
      exact ⟨rfl, rfl⟩
  · rw [if_neg (by omega)]
    go_enter Try.func31, Try.ntmps31
    go_wp2
    go_ret
    exact ⟨rfl, rfl⟩

set_option maxHeartbeats 400000 in
theorem aligned_any (n : Int) (w : World) :
    Calls Try.prog 32 #[.int .i64 n] w fun e w' => e = .returned (.func (.func 41) #[] #[.pointer (some ⟨w.heap.size, 0, none⟩)]) ∧ w.alloc (.cells #[.int .i64 n] 3) = w' := by
  go_enter Try.func32, Try.ntmps32
  go_wp2
  go_ret
  exact ⟨rfl, rfl⟩

/-- Is an address no multiple of by? -/
def alignT (by' a : Int) : Int := if a % by' = 0 then 0 else -23
set_option maxHeartbeats 400000 in
theorem aligned1_any (a n k : Int) (x : Nat) (w : World) (h1 : 0 ≤ a) (hk : 1 ≤ k) (hx : Blk w x 3 #[.int .i64 k]) :
    Calls Try.prog 41 #[.int .i64 a, .int .i64 n, .pointer (some ⟨x, 0, none⟩)] w fun e w' => e = .returned (.int .i64 (alignT k a)) ∧ w = w' := by
  have h0 := hx.cell 0
  simp at h0
  unfold alignT
  by_cases k1 : a % k = 0
  · rw [if_pos k1]
    have k2 : (a % k != 0) = false := by simp [k1]
    clear k1
    go_enter Try.func41, Try.ntmps41
    go_wp2
    go_ret
    exact ⟨rfl, rfl⟩
  · rw [if_neg k1]
    have k2 : (a % k != 0) = true := by simp [k1]
    clear k1
    go_enter Try.func41, Try.ntmps41
    go_wp2
    go_ret
    exact ⟨rfl, rfl⟩

end Go.Proofs.Ytmkpoemjikdoeaa
