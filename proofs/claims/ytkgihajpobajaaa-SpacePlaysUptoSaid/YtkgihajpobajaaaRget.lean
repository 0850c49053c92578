/- The document's data space: get, set. -/
import Derived.Test.YtkgihajpobajaaaRsp
import Derived.Test.YtkgihajpobajaaaPure9
import Derived.RegionTactic
import Derived.ChangeAlike
namespace Go.Proofs.Ytkgihajpobajaaa
open Go Go.RowKit

theorem leV_drop {l : List Int} {m : Nat} (hm : m < l.length) : leV (l.drop m) = l[m] + 256 * leV (l.drop (m + 1)) := by
  rw [List.drop_eq_getElem_cons hm]
  rfl
section
variable {w w' : World} {p g : Nat} {bs : List Int} {here last : Int}

set_option maxHeartbeats 2000000 in
theorem getR (off n : Nat) (w : World) (h : RSp w p g bs here last) (hn : n ≤ 8) (hi : off + n ≤ bs.length) :
    Calls Try.prog 68 #[.pointer (some ⟨p, 0, none⟩), .int .i64 (65536 + (off : Int)), .int .i64 (n : Int)] w fun e w' => e = .returned (.int .u64 (leV ((bs.drop off).take n))) ∧ Fr0 w w' := by
  have hl := h.len
  have c0 := h.obj.cell 0
  simp at c0
  have HR := Lib.hid h.row
  have HB := Lib.hid h.byt
  clear h
  obtain ⟨l, hl0⟩ : ∃ l, (bs.drop off).take n = l := ⟨_, rfl⟩
  have hll : l.length = n := by rw [← hl0]; simp; omega
  have hlb : Bytes l := by rw [← hl0]; exact (HB.out.drop _).take _
  have hat : ∀ m, m < n → ∃ x, l[m]? = some x ∧ w.cell? ⟨g, off + m, none⟩ = some (.int .u8 x) := fun m hm => by
    refine ⟨l[m]'(by omega), List.getElem?_eq_getElem _, ?_⟩
    rw [HR.out.cell, cells8_at, ← List.getElem?_drop]
    have : (bs.drop off)[m]? = ((bs.drop off).take n)[m]? := by rw [List.getElem?_take, if_pos hm]
    rw [this]
    simp only [hl0]
    rw [List.getElem?_eq_getElem (by omega)]
    rfl
  rw [hl0]
  have HLL := Lib.hid hll
  have HAT := Lib.hid hat
  clear hl0 hll hat
  go_enter Try.func68, Try.ntmps68
  go_wp2
  go_loopw [7, 8] (fun v i wr => ∃ m : Nat, m ≤ n ∧ i = .int .i64 ((m : Int) - 1) ∧ v = .int .u64 (leV (l.drop m)) ∧ Fr0 w wr) (fun _ i _ => (intOf i + 1).toNat)
  case atStart => exact ⟨n, by omega, rfl, by rw [List.drop_of_length_le (by rw [HLL.out]; exact Nat.le_refl _)]; rfl, Fr.refl _ _⟩
  case round =>
    obtain ⟨m, hm, rfl, rfl, hfr⟩ := hrel
    by_cases h0 : m = 0
    · subst h0
      simp only [Int.natCast_zero]
      go_wp2
      go_ret
      exact ⟨rfl, hfr⟩
    · obtain ⟨q, rfl⟩ : ∃ q, m = q + 1 := ⟨m - 1, by omega⟩
      clear h0
      obtain ⟨x, hx, hc⟩ := HAT.out q (by omega)
      have hxb := hlb x (List.mem_of_getElem? hx)
      have hc0 := (hfr.cell (p := ⟨p, 0, none⟩) (by have := World.block_lt_of_cell? _ _ c0; simpa using this) (fun x => x)).trans c0
      have hc1 := (hfr.cell (p := ⟨g, off + q, none⟩) HR.out.lt (fun x => x)).trans hc
      have hlb2 := leV_lt (l.drop (q + 1)) (hlb.drop _) (by simp; rw [HLL.out]; omega)
      have hlb3 := leV_lt (l.drop q) (hlb.drop _) (by simp; rw [HLL.out]; omega)
      have hstep : leV (l.drop q) = x + 256 * leV (l.drop (q + 1)) := by
        have hq : q < l.length := by rw [HLL.out]; omega
        rw [leV_drop hq]
        rw [List.getElem?_eq_getElem hq] at hx
        injection hx with hx
        rw [hx]
      have HST := Lib.hid hstep
      have HF := Lib.hid hfr
      clear hstep hx hc hfr
      generalize hV : leV (l.drop (q + 1)) = V at *
      clear hV
      have e1 : ((q + 1 : Nat) : Int) - 1 = (q : Int) := by omega
      rw [e1]
      go_wp2
      exact ⟨⟨q, by omega, rfl, congrArg (Value.int .u64) (by rw [or_byte V x hxb.1 hxb.2]; have h5 := HST.out; omega), HF.out⟩, by simp [intOf]⟩

set_option maxHeartbeats 2000000 in
theorem setR (off n : Nat) (v : Int) (w : World) (h : RSp w p g bs here last) (hn : n ≤ 8) (hi : off + n ≤ bs.length) :
    Calls Try.prog 69 #[.pointer (some ⟨p, 0, none⟩), .int .i64 (65536 + (off : Int)), .int .i64 (n : Int), .int .u64 (IntKind.u64.wrap v)] w fun e w' => e = .returned (.tuple #[]) ∧ Fr1 g w w' ∧ RSp w' p g (poke bs off (leB v n)) here last := by
  have hl := h.len
  have c0 := h.obj.cell 0
  simp at c0
  have HH := Lib.hid h
  have hne := h.ne
  have hgl := h.row.lt
  have hpl := h.obj.lt
  clear h
  obtain ⟨u, hu⟩ : ∃ u, IntKind.u64.wrap v = u := ⟨_, rfl⟩
  have hbyte : ∀ k, k < 8 → u / 2 ^ (8 * k) % 256 = v / 2 ^ (8 * k) % 256 := fun k hk => by rw [← hu]; exact byte_of v k hk
  rw [hu]
  have hub : 0 ≤ u ∧ u ≤ 18446744073709551615 := by rw [← hu]; simp [IntKind.wrap, IntKind.bits, IntKind.signed]; omega
  have HBY := Lib.hid hbyte
  clear hbyte hu
  go_enter Try.func69, Try.ntmps69
  go_wp2
  go_loopw [8] (fun i wr => ∃ k : Nat, k ≤ n ∧ i = .int .i64 k ∧ Fr1 g w wr ∧ Blk wr g 5 (cells8 (poke bs off (leB v k)))) (fun i _ => n - (intOf i).toNat)
  case atStart => exact ⟨0, by omega, rfl, Fr.refl _ w, by rw [show leB v 0 = [] from rfl, poke_nil]; exact HH.out.row⟩
  case round =>
    obtain ⟨k, hk, rfl, hf, hb⟩ := hrel
    by_cases hlt : k < n
    · have hc := hb.cell (off + k)
      have hz := hb.frozen (off + k)
      have hl2 : off + k < (poke bs off (leB v k)).length := by rw [poke_length _ _ _ (by rw [leB_length]; omega)]; omega
      rw [cells8_at, List.getElem?_eq_getElem hl2] at hc
      simp only [Option.map_some] at hc
      have hc0 := (hf.cell (p := ⟨p, 0, none⟩) hpl hne).trans c0
      have HB := Lib.hid hb
      have HF := Lib.hid hf
      clear hb hf
      go_wp2
      go_region
      go_wp2
      have hl2 : (leB v k).length = k := leB_length v k
      refine ⟨⟨k + 1, by omega, by go_num, (HF.out.setCell (.inl rfl) _).drew, ?_⟩, by simp [intOf]; omega⟩
      rw [leB_succ, ← HBY.out k (by omega), poke_snoc _ _ _ _ (by omega), hl2, ← cells8_set]
      exact (HB.out.set_ _ _).drew
    · obtain rfl : k = n := by omega
      go_wp2
      go_end0
      exact ⟨rfl, hf, HH.out.row_ hf _ (poke_length _ _ _ (by rw [leB_length]; omega)) (poke_bytes HH.out.byt (leB_bytes _ _) _) hb⟩
end
end Go.Proofs.Ytkgihajpobajaaa
