/- The program's data space: storing. -/
import Derived.Test.YtkgihajpobajaaaGetb
import Derived.Laws.CopyOwn
namespace Go.Proofs.Ytkgihajpobajaaa
open Go Go.RowKit

/-- The row bs with the bytes l from a place on. -/
def poke (bs : List Int) (off : Nat) (l : List Int) : List Int := bs.take off ++ l ++ bs.drop (off + l.length)
theorem poke_nil (bs : List Int) (off : Nat) : poke bs off [] = bs := by simp [poke]
theorem poke_length (bs : List Int) (off : Nat) (l : List Int) (h : off + l.length ≤ bs.length) : (poke bs off l).length = bs.length := by
  simp [poke]; omega
theorem poke_snoc (bs : List Int) (off : Nat) (l : List Int) (x : Int) (h : off + l.length < bs.length) : poke bs off (l ++ [x]) = (poke bs off l).set (off + l.length) x := by
  unfold poke
  have e1 : (bs.take off ++ l).length = off + l.length := by simp; omega
  rw [List.drop_eq_getElem_cons h, List.set_append_right _ _ (by omega), e1, Nat.sub_self]
  simp [List.append_assoc, Nat.add_assoc]
theorem poke_bytes {bs l : List Int} (h : Bytes bs) (hl : Bytes l) (off : Nat) : Bytes (poke bs off l) := ((h.take _).append hl).append (h.drop _)

/-- The n lowest bytes of a number, the lowest first. -/
def leB (v : Int) (n : Nat) : List Int := (List.range n).map fun i => v / 2 ^ (8 * i) % 256
theorem leB_length (v : Int) (n : Nat) : (leB v n).length = n := by simp [leB]
theorem leB_succ (v : Int) (n : Nat) : leB v (n + 1) = leB v n ++ [v / 2 ^ (8 * n) % 256] := by simp [leB, List.range_succ]
theorem leB_bytes (v : Int) (n : Nat) : Bytes (leB v n) := by
  intro x hx
  simp only [leB, List.mem_map, List.mem_range] at hx
  obtain ⟨i, _, rfl⟩ := hx
  have := Int.emod_lt_of_pos (v / 2 ^ (8 * i)) (show (0 : Int) < 256 by decide)
  have := Int.emod_nonneg (v / 2 ^ (8 * i)) (show (256 : Int) ≠ 0 by decide)
  omega

theorem Sp.poke {w : World} {p g : Nat} {bs : List Int} {dict here : Int} (h : Sp w p g bs dict here) (w' : World) (off : Nat) (l : List Int) (hl : Bytes l) (hlen : off + l.length ≤ bs.length)
    (ho : Blk w' p 48 #[.slice (some ⟨g, 0, none⟩) bs.length bs.length, .int .i64 dict, .int .i64 here]) (hr : Blk w' g 5 (cells8 (poke bs off l))) : Sp w' p g (poke bs off l) dict here := by
  have e := poke_length bs off l hlen
  exact ⟨by rw [e]; exact ho, hr, poke_bytes h.byt hl off, by rw [e]; exact h.len⟩

section
variable {p g : Nat} {bs : List Int} {dict here : Int}
set_option maxRecDepth 100000 in
set_option maxHeartbeats 2000000 in
theorem put_ok (a v n : Int) (w : World) (h : Sp w p g bs dict here) (ha : i64 a) (hn : 1 ≤ n) (hn' : n ≤ 8)
    (hr : reachT bs.length a n (orT (alignT n a) (openT a n)) = 0) :
    Calls Try.prog 32 #[.pointer (some ⟨p, 0, none⟩), .int .i64 a, .int .i64 v, .int .i64 n] w fun e w' => e = .returned (.int .i64 0) ∧ Fr1 g w w' ∧ Sp w' p g (poke bs (a - 65536).toNat (leB v n.toNat)) dict here := by
  obtain ⟨k1, k2, k3⟩ := reachT_zero hr hn
  have hy1 : Blk (w.alloc (.cells #[.int .i64 n] 3)) w.heap.size 3 #[.int .i64 n] := Blk.new w _ _
  have hx1 : Blk ((w.alloc (.cells #[.int .i64 n] 3)).alloc (.cells #[.func (.func 44) #[] #[.pointer (some ⟨w.heap.size, 0, none⟩)], .func (.func 34) #[] #[]] 63)) (w.heap.size + 1) 63 #[.func (.func 44) #[] #[.pointer (some ⟨w.heap.size, 0, none⟩)], .func (.func 34) #[] #[]] := by
    have := Blk.new (w.alloc (.cells #[.int .i64 n] 3)) 63 #[.func (.func 44) #[] #[.pointer (some ⟨w.heap.size, 0, none⟩)], .func (.func 34) #[] #[]]
    simpa using this
  have hr1 : i64 n := ⟨by omega, by omega⟩
  have hc := reach2 a n n (w.heap.size + 1) w.heap.size _ ((h.alloc _).alloc _) ha hr1 (by omega) (hy1.alloc _) hx1
  rw [reachV_in ⟨hn, k1, k2⟩ k3, hr] at hc
  have b1 : (a - 65536).toNat + n.toNat ≤ bs.length := by omega
  have b2 : n.toNat ≤ 8 := by omega
  obtain ⟨off, hoff⟩ : ∃ off, (a - 65536).toNat = off := ⟨_, rfl⟩
  obtain ⟨m, hm⟩ : ∃ m, n.toNat = m := ⟨_, rfl⟩
  rw [hoff] at hc b1 ⊢
  rw [hm] at hc b1 b2 ⊢
  clear hoff hm
  have Hc := Lib.hid hc
  have Hr := Lib.hid hr
  clear hc hr k3
  have hg := h.row.lt
  go_enter Try.func32, Try.ntmps32
  go_wp2_with (first | (go_at_call 38; refine (aligned_any n _).mono ?_; rintro e w' ⟨rfl, rfl⟩) | (go_at_call 33; refine Hc.out.mono ?_; rintro e w' ⟨rfl, rfl⟩))
  go_loopw [24] (fun i wr => ∃ k : Nat, k ≤ m ∧ i = .int .i64 k ∧ Fr1 g w wr ∧ Blk wr g 5 (cells8 (poke bs off (leB v k)))) (fun i _ => m - (intOf i).toNat)
  case atStart => exact ⟨0, by omega, rfl, ((Fr.refl _ w).alloc _).alloc _, by rw [show leB v 0 = [] from rfl, poke_nil]; exact (h.row.alloc _).alloc _⟩
  case round =>
    obtain ⟨k, hk, rfl, hf, hb⟩ := hrel
    by_cases hlt : k < m
    · have hc := hb.cell (off + k)
      have hz := hb.frozen (off + k)
      have hl : off + k < (poke bs off (leB v k)).length := by rw [poke_length _ _ _ (by rw [leB_length]; omega)]; omega
      rw [cells8_at, List.getElem?_eq_getElem hl] at hc
      simp only [Option.map_some] at hc
      go_wp2
      go_roundw
      case rel =>
        refine ⟨k + 1, by omega, by go_num, hf.setCell (.inl rfl) _, ?_⟩
        rw [leB_succ, poke_snoc _ _ _ _ (by rw [leB_length]; omega), leB_length, ← cells8_set]
        exact hb.set_ _ _
      case measure => simp [intOf]; omega
    · obtain rfl : k = m := by omega
      go_wp2
      go_ret
      exact ⟨rfl, hf, h.poke _ _ _ (leB_bytes _ _) (by rw [leB_length]; omega) (h.obj.fr hf h.ne) hb⟩

set_option maxRecDepth 100000 in
set_option maxHeartbeats 2000000 in
theorem put_bad (a v n : Int) (w : World) (h : Sp w p g bs dict here) (ha : i64 a) (hn : 1 ≤ n) (hn' : n ≤ 8)
    (hr : reachT bs.length a n (orT (alignT n a) (openT a n)) ≠ 0) :
    Calls Try.prog 32 #[.pointer (some ⟨p, 0, none⟩), .int .i64 a, .int .i64 v, .int .i64 n] w fun e w' => e = .returned (.int .i64 (reachT bs.length a n (orT (alignT n a) (openT a n)))) ∧ Fr0 w w' := by
  have hy1 : Blk (w.alloc (.cells #[.int .i64 n] 3)) w.heap.size 3 #[.int .i64 n] := Blk.new w _ _
  have hx1 : Blk ((w.alloc (.cells #[.int .i64 n] 3)).alloc (.cells #[.func (.func 44) #[] #[.pointer (some ⟨w.heap.size, 0, none⟩)], .func (.func 34) #[] #[]] 63)) (w.heap.size + 1) 63 #[.func (.func 44) #[] #[.pointer (some ⟨w.heap.size, 0, none⟩)], .func (.func 34) #[] #[]] := by
    have := Blk.new (w.alloc (.cells #[.int .i64 n] 3)) 63 #[.func (.func 44) #[] #[.pointer (some ⟨w.heap.size, 0, none⟩)], .func (.func 34) #[] #[]]
    simpa using this
  have hr1 : i64 n := ⟨by omega, by omega⟩
  have hc := reach2 a n n (w.heap.size + 1) w.heap.size _ ((h.alloc _).alloc _) ha hr1 (by omega) (hy1.alloc _) hx1
  rw [reachV_bad hr] at hc
  obtain ⟨t, ht⟩ : ∃ t, reachT bs.length a n (orT (alignT n a) (openT a n)) = t := ⟨_, rfl⟩
  rw [ht] at hc hr ⊢
  clear ht
  have Hc := Lib.hid hc
  have Hr := Lib.hid hr
  clear hc hr
  go_enter Try.func32, Try.ntmps32
  go_wp2_with (first | (go_at_call 38; refine (aligned_any n _).mono ?_; rintro e w' ⟨rfl, rfl⟩) | (go_at_call 33; refine Hc.out.mono ?_; rintro e w' ⟨rfl, rfl⟩))
  refine wp_loop_rounds 1 ?_
  rw [rounds_succ]
  go_wp2
  go_ret
  exact ⟨rfl, ((Fr.refl _ w).alloc _).alloc _⟩

/-- The row behind a store of n bytes. -/
def putB (bs : List Int) (a v n : Int) : List Int := if reachT bs.length a n (orT (alignT n a) (openT a n)) = 0 then poke bs (a - 65536).toNat (leB v n.toNat) else bs

theorem put_spec (a v n : Int) (w : World) (h : Sp w p g bs dict here) (ha : i64 a) (hn : 1 ≤ n) (hn' : n ≤ 8) :
    Calls Try.prog 32 #[.pointer (some ⟨p, 0, none⟩), .int .i64 a, .int .i64 v, .int .i64 n] w fun e w' => e = .returned (.int .i64 (reachT bs.length a n (orT (alignT n a) (openT a n)))) ∧ Fr1 g w w' ∧ Sp w' p g (putB bs a v n) dict here := by
  unfold putB
  by_cases hr : reachT bs.length a n (orT (alignT n a) (openT a n)) = 0
  · rw [if_pos hr, hr]
    exact put_ok a v n w h ha hn hn' hr
  · rw [if_neg hr]
    exact (put_bad a v n w h ha hn hn' hr).mono fun e w' ⟨he, hf⟩ => ⟨he, hf.of0, h.fr0 hf⟩

set_option maxHeartbeats 400000 in
theorem Store_any (a v : Int) (w : World) (h : Sp w p g bs dict here) (ha : i64 a) :
    Calls Try.prog 12 #[.pointer (some ⟨p, 0, none⟩), .int .i64 a, .int .i64 v] w fun e w' => e = .returned (.int .i64 (reachT bs.length a 8 (orT (alignT 8 a) (openT a 8)))) ∧ Fr1 g w w' ∧ Sp w' p g (putB bs a v 8) dict here := by
  go_enter Try.func12, Try.ntmps12
  go_wp2_with (go_at_call 32; refine (put_spec a v 8 _ h ha (by omega) (by omega)).mono ?_; rintro e w1 ⟨rfl, hf⟩)
  go_ret
  exact ⟨rfl, hf⟩
end

end Go.Proofs.Ytkgihajpobajaaa
