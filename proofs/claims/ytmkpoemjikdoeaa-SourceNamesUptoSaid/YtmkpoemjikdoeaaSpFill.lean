/- The program's data space: Fill, System. -/
import Derived.Test.YtmkpoemjikdoeaaSpMore
namespace Go.Proofs.Ytmkpoemjikdoeaa
open Go Go.RowKit

theorem wrap8 (v : Int) : IntKind.u8.wrap v = v % 256 := by simp [IntKind.wrap, IntKind.bits, IntKind.signed]
/-- n times one byte. -/
def reps (n : Nat) (x : Int) : List Int := List.replicate n x
theorem reps_length (n : Nat) (x : Int) : (reps n x).length = n := by simp [reps]
theorem reps_succ (n : Nat) (x : Int) : reps (n + 1) x = reps n x ++ [x] := by simp [reps, List.replicate_succ']
theorem reps_bytes (n : Nat) (x : Int) (h : 0 ≤ x ∧ x ≤ 255) : Bytes (reps n x) := fun y hy => by
  simp only [reps, List.mem_replicate] at hy
  rw [hy.2]; exact h
/-- The row behind a fill; behind a store of the system's. -/
def fillB (bs : List Int) (a n v : Int) : List Int := if putT bs.length a n = 0 then poke bs (a - 65536).toNat (reps n.toNat (v % 256)) else bs
def sysB (bs : List Int) (a v : Int) : List Int := if reachT bs.length a 8 (alignT 8 a) = 0 then poke bs (a - 65536).toNat (leB v 8) else bs

section
variable {p g : Nat} {bs : List Int} {dict here : Int}
set_option maxRecDepth 100000 in
set_option maxHeartbeats 2000000 in
theorem System_any (a v : Int) (w : World) (h : Sp w p g bs dict here) (ha : i64 a) :
    Calls Try.prog 23 #[.pointer (some ⟨p, 0, none⟩), .int .i64 a, .int .i64 v] w fun e w' => e = .returned (.tuple #[]) ∧ Fr1 g w w' ∧ Sp w' p g (sysB bs a v) dict here := by
  have hy1 : Blk (w.alloc (.cells #[.int .i64 8] 3)) w.heap.size 3 #[.int .i64 8] := Blk.new w _ _
  have hx1 : Blk ((w.alloc (.cells #[.int .i64 8] 3)).alloc (.cells #[.func (.func 41) #[] #[.pointer (some ⟨w.heap.size, 0, none⟩)]] 75)) (w.heap.size + 1) 75 #[.func (.func 41) #[] #[.pointer (some ⟨w.heap.size, 0, none⟩)]] := by
    have := Blk.new (w.alloc (.cells #[.int .i64 8] 3)) 75 #[.func (.func 41) #[] #[.pointer (some ⟨w.heap.size, 0, none⟩)]]
    simpa using this
  have hc := reachA a 8 8 (w.heap.size + 1) w.heap.size _ ((h.alloc _).alloc _) ha ⟨by omega, by omega⟩ (by omega) (hy1.alloc _) hx1
  unfold sysB
  by_cases hr : reachT bs.length a 8 (alignT 8 a) = 0
  · obtain ⟨k1, k2, k3⟩ := reachT_zero hr (by omega)
    rw [if_pos hr]
    rw [reachV_in ⟨by omega, k1, k2⟩ k3, hr, show (8 : Int).toNat = 8 from rfl] at hc
    have b1 : (a - 65536).toNat + 8 ≤ bs.length := by omega
    obtain ⟨off, hoff⟩ : ∃ off, (a - 65536).toNat = off := ⟨_, rfl⟩
    rw [hoff] at hc b1 ⊢
    clear hoff
    have Hc := Lib.hid hc
    clear hc hr k3
    have hg := h.row.lt
    have hl := h.len
    go_enter Try.func23, Try.ntmps23
    go_wp2_with (first | (go_at_call 32; refine (aligned_any 8 _).mono ?_; rintro e w' ⟨rfl, rfl⟩) | (go_at_call 25; refine Hc.out.mono ?_; rintro e w' ⟨rfl, rfl⟩))
    go_loopw [19] (fun i wr => ∃ k : Nat, k ≤ 8 ∧ i = .int .i64 k ∧ Fr1 g w wr ∧ Blk wr g 5 (cells8 (poke bs off (leB v k)))) (fun i _ => 8 - (intOf i).toNat)
    case atStart => exact ⟨0, by omega, rfl, ((Fr.refl _ w).alloc _).alloc _, by rw [show leB v 0 = [] from rfl, poke_nil]; exact (h.row.alloc _).alloc _⟩
    case round =>
      obtain ⟨k, hk, rfl, hf, hb⟩ := hrel
      by_cases hlt : k < 8
      · have hc := hb.cell (off + k)
        have hz := hb.frozen (off + k)
        have hl2 : off + k < (poke bs off (leB v k)).length := by rw [poke_length _ _ _ (by rw [leB_length]; omega)]; omega
        rw [cells8_at, List.getElem?_eq_getElem hl2] at hc
        simp only [Option.map_some] at hc
        go_wp2
        have hl3 := leB_length v k
        refine ⟨⟨k + 1, by omega, by go_num, hf.setCell (.inl rfl) _, ?_⟩, by simp [intOf]; omega⟩
        rw [leB_succ, poke_snoc _ _ _ _ (by omega), hl3, ← cells8_set]
        exact hb.set_ _ _
      · obtain rfl : k = 8 := by omega
        go_wp2
        go_end0
        exact ⟨rfl, hf, h.row_ hf _ (poke_length _ _ _ (by rw [leB_length]; exact b1)) (poke_bytes h.byt (leB_bytes _ _) _) hb⟩
  · rw [if_neg hr]
    rw [reachV_bad hr] at hc
    have Hc := Lib.hid hc
    have HH := Lib.hid h
    clear hc h
    generalize reachT bs.length a 8 (alignT 8 a) = T at *
    go_enter Try.func23, Try.ntmps23
    go_wp2_with (first | (go_at_call 32; refine (aligned_any 8 _).mono ?_; rintro e w' ⟨rfl, rfl⟩) | (go_at_call 25; refine Hc.out.mono ?_; rintro e w' ⟨rfl, rfl⟩))
    refine wp_loop_rounds 1 ?_
    rw [rounds_succ]
    go_wp2
    go_end0
    exact ⟨rfl, ((Fr.refl _ w).alloc _).alloc _, HH.out.fr0 (((Fr.refl _ w).alloc _).alloc _)⟩
end
end Go.Proofs.Ytmkpoemjikdoeaa
