/- The document's data space: get, set. -/
import Derived.Test.YtmkpoemjikdoeaaRsp
import Derived.Test.YtmkpoemjikdoeaaPure9
import Derived.RegionTactic
import Derived.ChangeAlike
namespace Go.Proofs.Ytmkpoemjikdoeaa
open Go Go.RowKit

theorem leV_drop {l : List Int} {m : Nat} (hm : m < l.length) : leV (l.drop m) = l[m] + 256 * leV (l.drop (m + 1)) := by
  rw [List.drop_eq_getElem_cons hm]
  rfl
section
variable {w w' : World} {p g : Nat} {bs : List Int} {here last : Int}

set_option maxHeartbeats 2000000 in
theorem setR (off n : Nat) (v : Int) (w : World) (h : RSp w p g bs here last) (hn : n ≤ 8) (hi : off + n ≤ bs.length) :
    Calls Try.prog 40 #[.pointer (some ⟨p, 0, none⟩), .int .i64 (65536 + (off : Int)), .int .i64 (n : Int), .int .u64 (IntKind.u64.wrap v)] w fun e w' => e = .returned (.tuple #[]) ∧ Fr1 g w w' ∧ RSp w' p g (poke bs off (leB v n)) here last := by
  have hl := h.len
  have c0 := h.obj.cell 0
  simp at c0
  have HH := Lib.hid h
  have hne := h.ne
  have hgl := h.row.lt
  have hpl := h.obj.lt
  clear h
  obtain ⟨u, hu⟩ : ∃ u, IntKind.u64.wrap v = u := ⟨_, rfl⟩
  have hbyte : ∀ k, k < 8 → u / 2 ^ (8 * k) % 256 = v / 2 ^ (8 * k) % 256 := fun k hk => by rw [← hu]; exact byte_of v k hk
  rw [hu]
  have hub : 0 ≤ u ∧ u ≤ 18446744073709551615 := by rw [← hu]; simp [IntKind.wrap, IntKind.bits, IntKind.signed]; omega
  have HBY := Lib.hid hbyte
  clear hbyte hu
  go_enter Try.func40, Try.ntmps40
  go_wp2
  go_loopw [8] (fun i wr => ∃ k : Nat, k ≤ n ∧ i = .int .i64 k ∧ Fr1 g w wr ∧ Blk wr g 5 (cells8 (poke bs off (leB v k)))) (fun i _ => n - (intOf i).toNat)
  case atStart => exact ⟨0, by omega, rfl, Fr.refl _ w, by rw [show leB v 0 = [] from rfl, poke_nil]; exact HH.out.row⟩
  case round =>
    obtain ⟨k, hk, rfl, hf, hb⟩ := hrel
    by_cases hlt : k < n
    · have hc := hb.cell (off + k)
      have hz := hb.frozen (off + k)
      have hl2 : off + k < (poke bs off (leB v k)).length := by rw [poke_length _ _ _ (by rw [leB_length]; omega)]; omega
      rw [cells8_at, List.getElem?_eq_getElem hl2] at hc
      simp only [Option.map_some] at hc
      have hc0 := (hf.cell (p := ⟨p, 0, none⟩) hpl hne).trans c0
      have HB := Lib.hid hb
      have HF := Lib.hid hf
      clear hb hf
      go_wp2
      go_region
      go_wp2
      have hl2 : (leB v k).length = k := leB_length v k
      refine ⟨⟨k + 1, by omega, by go_num, (HF.out.setCell (.inl rfl) _).drew, ?_⟩, by simp [intOf]; omega⟩
      rw [leB_succ, ← HBY.out k (by omega), poke_snoc _ _ _ _ (by omega), hl2, ← cells8_set]
      exact (HB.out.set_ _ _).drew
    · obtain rfl : k = n := by omega
      go_wp2
      go_end0
      exact ⟨rfl, hf, HH.out.row_ hf _ (poke_length _ _ _ (by rw [leB_length]; omega)) (poke_bytes HH.out.byt (leB_bytes _ _) _) hb⟩
end
end Go.Proofs.Ytmkpoemjikdoeaa
