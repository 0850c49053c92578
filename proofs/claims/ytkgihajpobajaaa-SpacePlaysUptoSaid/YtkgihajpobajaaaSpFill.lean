/- The program's data space: Fill, System. -/
import Derived.Test.YtkgihajpobajaaaSpMore
namespace Go.Proofs.Ytkgihajpobajaaa
open Go Go.RowKit

theorem wrap8 (v : Int) : IntKind.u8.wrap v = v % 256 := by simp [IntKind.wrap, IntKind.bits, IntKind.signed]
/-- n times one byte. -/
def reps (n : Nat) (x : Int) : List Int := List.replicate n x
theorem reps_length (n : Nat) (x : Int) : (reps n x).length = n := by simp [reps]
theorem reps_succ (n : Nat) (x : Int) : reps (n + 1) x = reps n x ++ [x] := by simp [reps, List.replicate_succ']
theorem reps_bytes (n : Nat) (x : Int) (h : 0 ≤ x ∧ x ≤ 255) : Bytes (reps n x) := fun y hy => by
  simp only [reps, List.mem_replicate] at hy
  rw [hy.2]; exact h
/-- The row behind a fill; behind a store of the system's. -/
def fillB (bs : List Int) (a n v : Int) : List Int := if putT bs.length a n = 0 then poke bs (a - 65536).toNat (reps n.toNat (v % 256)) else bs
def sysB (bs : List Int) (a v : Int) : List Int := if reachT bs.length a 8 (alignT 8 a) = 0 then poke bs (a - 65536).toNat (leB v 8) else bs

section
variable {p g : Nat} {bs : List Int} {dict here : Int}
set_option maxRecDepth 100000 in
set_option maxHeartbeats 2000000 in
theorem Fill_in (a n v : Int) (w : World) (h : Sp w p g bs dict here) (ha : i64 a) (hn : i64 n) (hn1 : 1 ≤ n) (hr : putT bs.length a n = 0) :
    Calls Try.prog 27 #[.pointer (some ⟨p, 0, none⟩), .int .i64 a, .int .i64 n, .int .i64 v] w fun e w' => e = .returned (.int .i64 0) ∧ Fr1 g w w' ∧ Sp w' p g (poke bs (a - 65536).toNat (reps n.toNat (v % 256))) dict here := by
  obtain ⟨k1, k2, k3⟩ := reachT_zero hr hn1
  have hc := reach1 a n w.heap.size (w.alloc (.cells #[.func (.func 34) #[] #[]] 63)) (h.alloc _) ha hn (openRule w)
  rw [reachV_in ⟨hn1, k1, k2⟩ k3, show reachT bs.length a n (openT a n) = 0 from hr] at hc
  have hx := wrap8 v
  obtain ⟨x, hxv⟩ : ∃ x, v % 256 = x := ⟨_, rfl⟩
  have hxb : 0 ≤ x ∧ x ≤ 255 := by omega
  rw [hxv] at hx ⊢
  have b1 : (a - 65536).toNat + n.toNat ≤ bs.length := by omega
  have b2 : 0 < n.toNat := by omega
  obtain ⟨off, hoff⟩ : ∃ off, (a - 65536).toNat = off := ⟨_, rfl⟩
  obtain ⟨m, hm⟩ : ∃ m, n.toNat = m := ⟨_, rfl⟩
  rw [hoff] at hc b1 ⊢
  rw [hm] at hc b1 b2 ⊢
  have hl := h.len
  have HM := Lib.hid hm
  clear hoff hm hxv
  have Hc := Lib.hid hc
  have HH := Lib.hid h
  clear hc hr k3
  have hg := h.row.lt
  clear h
  by_cases hx0 : x = 0
  · subst hx0
    have hB := HH.out.row.alloc (.cells #[.func (.func 34) #[] #[]] 63)
    have HB := Lib.hid hB
    clear hB
    go_enter Try.func27, Try.ntmps27
    go_wp2_with (first | (go_at_call 33; refine Hc.out.mono ?_; rintro e w' ⟨rfl, rfl⟩) | (refine wpList_clear8 rfl (.tmp 23) rfl HB.out b2 b1 rfl ?_; intro w2 hf2 hs2 hb2))
    go_ret
    have hf : Fr1 g w w2 := ((Fr.refl _ w).alloc _).trans hf2
    exact ⟨rfl, hf, HH.out.row_ hf _ (poke_length _ _ _ (by rw [reps_length]; exact b1)) (poke_bytes HH.out.byt (reps_bytes _ _ hxb) _) hb2⟩
  · have hx1 : (x == 0) = false := by simp [hx0]
    clear hx0
    go_enter Try.func27, Try.ntmps27
    go_wp2_with (go_at_call 33; refine Hc.out.mono ?_; rintro e w' ⟨rfl, rfl⟩)
    go_loopw [27] (fun i wr => ∃ k : Nat, k ≤ m ∧ i = .int .i64 k ∧ Fr1 g w wr ∧ Blk wr g 5 (cells8 (poke bs off (reps k x)))) (fun i _ => m - (intOf i).toNat)
    case atStart => exact ⟨0, by omega, rfl, (Fr.refl _ w).alloc _, by rw [show reps 0 x = [] from rfl, poke_nil]; exact HH.out.row.alloc _⟩
    case round =>
      obtain ⟨k, hk, rfl, hf, hb⟩ := hrel
      by_cases hlt : k < m
      · have hc := hb.cell (off + k)
        have hz := hb.frozen (off + k)
        have hl2 : off + k < (poke bs off (reps k x)).length := by rw [poke_length _ _ _ (by rw [reps_length]; omega)]; omega
        rw [cells8_at, List.getElem?_eq_getElem hl2] at hc
        simp only [Option.map_some] at hc
        go_wp2
        have hl3 := reps_length k x
        refine ⟨⟨k + 1, by omega, by go_num, hf.setCell (.inl rfl) _, ?_⟩, by simp [intOf]; omega⟩
        rw [reps_succ, poke_snoc _ _ _ _ (by omega), hl3, ← cells8_set]
        exact hb.set_ _ _
      · obtain rfl : k = m := by omega
        go_wp2
        go_ret
        exact ⟨rfl, hf, HH.out.row_ hf _ (poke_length _ _ _ (by rw [reps_length]; exact b1)) (poke_bytes HH.out.byt (reps_bytes _ _ hxb) _) hb⟩

set_option maxRecDepth 100000 in
set_option maxHeartbeats 2000000 in
theorem Fill_out (a n v : Int) (w : World) (h : Sp w p g bs dict here) (ha : i64 a) (hn : i64 n) (hr : ¬ (1 ≤ n ∧ putT bs.length a n = 0)) :
    Calls Try.prog 27 #[.pointer (some ⟨p, 0, none⟩), .int .i64 a, .int .i64 n, .int .i64 v] w fun e w' => e = .returned (.int .i64 (putT bs.length a n)) ∧ Fr0 w w' := by
  have hc := reach1 a n w.heap.size (w.alloc (.cells #[.func (.func 34) #[] #[]] 63)) (h.alloc _) ha hn (openRule w)
  rw [show reachV g bs.length a n (openT a n) = .slice none 0 0 by unfold reachV; rw [if_neg (fun k => hr ⟨by omega, k.2⟩)], show reachT bs.length a n (openT a n) = putT bs.length a n from rfl] at hc
  generalize putT bs.length a n = T at *
  have Hc := Lib.hid hc
  clear hc hr h
  obtain ⟨x, hx⟩ : ∃ x, IntKind.u8.wrap v = x := ⟨_, rfl⟩
  cases hx0 : (x == 0)
  · go_enter Try.func27, Try.ntmps27
    go_wp2_with (go_at_call 33; refine Hc.out.mono ?_; rintro e w' ⟨rfl, rfl⟩)
    refine wp_loop_rounds 1 ?_
    rw [rounds_succ]
    go_wp2
    go_ret
    exact ⟨rfl, (Fr.refl _ w).alloc _⟩
  · go_enter Try.func27, Try.ntmps27
    go_wp2_with (first | (go_at_call 33; refine Hc.out.mono ?_; rintro e w' ⟨rfl, rfl⟩) | (refine wpList_clear_none rfl (.tmp 23) 32 rfl _ Try.underlying32 rfl ?_))
    go_ret
    exact ⟨rfl, (Fr.refl _ w).alloc _⟩

theorem Fill_any (a n v : Int) (w : World) (h : Sp w p g bs dict here) (ha : i64 a) (hn : i64 n) :
    Calls Try.prog 27 #[.pointer (some ⟨p, 0, none⟩), .int .i64 a, .int .i64 n, .int .i64 v] w fun e w' => e = .returned (.int .i64 (putT bs.length a n)) ∧ Fr1 g w w' ∧ Sp w' p g (fillB bs a n v) dict here := by
  unfold fillB
  by_cases hr : 1 ≤ n ∧ putT bs.length a n = 0
  · rw [if_pos hr.2, hr.2]
    exact Fill_in a n v w h ha hn hr.1 hr.2
  · have e : (if putT bs.length a n = 0 then poke bs (a - 65536).toNat (reps n.toNat (v % 256)) else bs) = bs := by
      split
      · rw [show n.toNat = 0 by omega, show reps 0 (v % 256) = [] from rfl, poke_nil]
      · rfl
    rw [e]
    exact (Fill_out a n v w h ha hn hr).mono fun e w' ⟨he, hf⟩ => ⟨he, hf.of0, h.fr0 hf⟩

set_option maxRecDepth 100000 in
set_option maxHeartbeats 2000000 in
theorem System_any (a v : Int) (w : World) (h : Sp w p g bs dict here) (ha : i64 a) :
    Calls Try.prog 26 #[.pointer (some ⟨p, 0, none⟩), .int .i64 a, .int .i64 v] w fun e w' => e = .returned (.tuple #[]) ∧ Fr1 g w w' ∧ Sp w' p g (sysB bs a v) dict here := by
  have hy1 : Blk (w.alloc (.cells #[.int .i64 8] 3)) w.heap.size 3 #[.int .i64 8] := Blk.new w _ _
  have hx1 : Blk ((w.alloc (.cells #[.int .i64 8] 3)).alloc (.cells #[.func (.func 44) #[] #[.pointer (some ⟨w.heap.size, 0, none⟩)]] 63)) (w.heap.size + 1) 63 #[.func (.func 44) #[] #[.pointer (some ⟨w.heap.size, 0, none⟩)]] := by
    have := Blk.new (w.alloc (.cells #[.int .i64 8] 3)) 63 #[.func (.func 44) #[] #[.pointer (some ⟨w.heap.size, 0, none⟩)]]
    simpa using this
  have hc := reachA a 8 8 (w.heap.size + 1) w.heap.size _ ((h.alloc _).alloc _) ha ⟨by omega, by omega⟩ (by omega) (hy1.alloc _) hx1
  unfold sysB
  by_cases hr : reachT bs.length a 8 (alignT 8 a) = 0
  · obtain ⟨k1, k2, k3⟩ := reachT_zero hr (by omega)
    rw [if_pos hr]
    rw [reachV_in ⟨by omega, k1, k2⟩ k3, hr, show (8 : Int).toNat = 8 from rfl] at hc
    have b1 : (a - 65536).toNat + 8 ≤ bs.length := by omega
    obtain ⟨off, hoff⟩ : ∃ off, (a - 65536).toNat = off := ⟨_, rfl⟩
    rw [hoff] at hc b1 ⊢
    clear hoff
    have Hc := Lib.hid hc
    clear hc hr k3
    have hg := h.row.lt
    have hl := h.len
    go_enter Try.func26, Try.ntmps26
    go_wp2_with (first | (go_at_call 38; refine (aligned_any 8 _).mono ?_; rintro e w' ⟨rfl, rfl⟩) | (go_at_call 33; refine Hc.out.mono ?_; rintro e w' ⟨rfl, rfl⟩))
    go_loopw [19] (fun i wr => ∃ k : Nat, k ≤ 8 ∧ i = .int .i64 k ∧ Fr1 g w wr ∧ Blk wr g 5 (cells8 (poke bs off (leB v k)))) (fun i _ => 8 - (intOf i).toNat)
    case atStart => exact ⟨0, by omega, rfl, ((Fr.refl _ w).alloc _).alloc _, by rw [show leB v 0 = [] from rfl, poke_nil]; exact (h.row.alloc _).alloc _⟩
    case round =>
      obtain ⟨k, hk, rfl, hf, hb⟩ := hrel
      by_cases hlt : k < 8
      · have hc := hb.cell (off + k)
        have hz := hb.frozen (off + k)
        have hl2 : off + k < (poke bs off (leB v k)).length := by rw [poke_length _ _ _ (by rw [leB_length]; omega)]; omega
        rw [cells8_at, List.getElem?_eq_getElem hl2] at hc
        simp only [Option.map_some] at hc
        go_wp2
        have hl3 := leB_length v k
        refine ⟨⟨k + 1, by omega, by go_num, hf.setCell (.inl rfl) _, ?_⟩, by simp [intOf]; omega⟩
        rw [leB_succ, poke_snoc _ _ _ _ (by omega), hl3, ← cells8_set]
        exact hb.set_ _ _
      · obtain rfl : k = 8 := by omega
        go_wp2
        go_end0
        exact ⟨rfl, hf, h.row_ hf _ (poke_length _ _ _ (by rw [leB_length]; exact b1)) (poke_bytes h.byt (leB_bytes _ _) _) hb⟩
  · rw [if_neg hr]
    rw [reachV_bad hr] at hc
    have Hc := Lib.hid hc
    have HH := Lib.hid h
    clear hc h
    generalize reachT bs.length a 8 (alignT 8 a) = T at *
    go_enter Try.func26, Try.ntmps26
    go_wp2_with (first | (go_at_call 38; refine (aligned_any 8 _).mono ?_; rintro e w' ⟨rfl, rfl⟩) | (go_at_call 33; refine Hc.out.mono ?_; rintro e w' ⟨rfl, rfl⟩))
    refine wp_loop_rounds 1 ?_
    rw [rounds_succ]
    go_wp2
    go_end0
    exact ⟨rfl, ((Fr.refl _ w).alloc _).alloc _, HH.out.fr0 (((Fr.refl _ w).alloc _).alloc _)⟩
end
end Go.Proofs.Ytkgihajpobajaaa
