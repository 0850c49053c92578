/- The document's data space: Bytes, Put, Fill, both. -/
import Derived.Test.YtkgihajpobajaaaRops
import Derived.Test.YtkgihajpobajaaaSpFill
import Derived.Test.YtkgihajpobajaaaSame
namespace Go.Proofs.Ytkgihajpobajaaa
open Go Go.RowKit

section
variable {p g : Nat} {bs : List Int} {here last : Int}
theorem rwT_bytes (L : Nat) (a n : Int) : rwT L a n 1 false = reachT L a n 0 := by rw [rwT_read, alignT_one]
theorem rwT_put (L : Nat) (a n : Int) : rwT L a n 1 true = putT L a n := by
  rw [rwT_write, alignT_one]
  unfold putT orT
  rw [if_pos rfl]
/-- The bytes at a place, as a row. -/
theorem RSp.sub {w : World} (h : RSp w p g bs here last) {off n : Nat} (hi : off + n ≤ bs.length) (c : Nat) (hc : n ≤ c) (hc2 : c ≤ 9223372036854775807) : Row8 w w.heap.size (.slice (some ⟨g, off, none⟩) n c) ((bs.drop off).take n) := by
  have hl : ((bs.drop off).take n).length = n := by simp; omega
  refine ⟨some ⟨g, off, none⟩, c, by rw [hl], by omega, ⟨hc2, by omega⟩, (h.byt.drop _).take _, fun _ => ⟨g, off, rfl, h.row.lt, fun j x hx => ?_⟩⟩
  rw [h.row.cell, cells8_at]
  rw [List.getElem?_take] at hx
  split at hx
  · rw [List.getElem?_drop] at hx; rw [hx]; rfl
  · cases hx

set_option maxRecDepth 100000 in
set_option maxHeartbeats 2000000 in
theorem BytesR (a n : Int) (w : World) (h : RSp w p g bs here last) (ha : i64 a) (hn : i64 n) :
    Calls Try.prog 54 #[.pointer (some ⟨p, 0, none⟩), .int .i64 a, .int .i64 n] w fun e w' => Gives (fun v w' => ∃ u, v = .tuple #[u, .int .i64 (reachT bs.length a n 0)] ∧ Own8 w' w.heap.size u (bytesV bs a n) ∧ Fr0 w w') e w' := by
  have hR := reachR a n 1 false w h ha hn (.inl rfl)
  rw [rwT_bytes] at hR
  by_cases h0 : reachT bs.length a n 0 = 0 ∧ 0 < n
  · obtain ⟨k1, k2, _⟩ := reachT_zero h0.1 (by omega)
    have eb : bytesV bs a n = (bs.drop (a - 65536).toNat).take n.toNat := by unfold bytesV; rw [if_pos h0.1]
    rw [eb, h0.1]
    rw [h0.1] at hR
    have hm0 : (n == 0) = false := by simp; omega
    have hl := h.len
    have hsub := h.sub (off := (a - 65536).toNat) (n := n.toNat) (by omega) (bs.length - (a - 65536).toNat) (by omega) (by omega)
    have e1 : (Value.slice (if bs.length = (a - 65536).toNat then some ⟨g, 0, none⟩ else some ⟨g, (a - 65536).toNat, none⟩) ((a - 65536 + n).toNat - (a - 65536).toNat) (bs.length - (a - 65536).toNat)) = .slice (some ⟨g, (a - 65536).toNat, none⟩) n.toNat (bs.length - (a - 65536).toNat) := by
      rw [if_neg (by omega), show (a - 65536 + n).toNat - (a - 65536).toNat = n.toNat by omega]
    rw [← e1] at hsub
    have c0 := h.obj.cell 0
    simp at c0
    have hl2 : ((bs.drop (a - 65536).toNat).take n.toNat).length ≤ 2000000 := by simp; omega
    have hnn : 0 ≤ n := by omega
    have HR := Lib.hid hR
    have HS := Lib.hid hsub
    clear hR hsub h0 eb h e1
    go_enter Try.func54, Try.ntmps54
    go_wp2_with (first | (go_at_call 67; refine HR.out.mono ?_; rintro e w' ⟨rfl, rfl⟩) | (at_builtin; refine wpList_append8 rfl (.tmp 21) (.tmp 32) rfl rfl (v := .slice none 0 0) (xs := []) rfl rfl (World.ownsRow_nil _ _ _ _) HS.out (Nat.le_refl _) (by have := hl2; simp at this ⊢; omega) ?_; intro v2 w2 ho hg hk))
    all_goals go_ret2
    all_goals exact ⟨_, rfl, v2, rfl, ho, (Fr.refl _ w).grown hg (fun k hk => by cases hk)⟩
  · have e2 : bytesV bs a n = [] := by
      unfold bytesV
      by_cases h1 : reachT bs.length a n 0 = 0
      · rw [if_pos h1, show n.toNat = 0 by omega, List.take_zero]
      · rw [if_neg h1]
    have hT : (reachT bs.length a n 0 != 0) = true ∨ ((reachT bs.length a n 0 != 0) = false ∧ (n == 0) = true ∨ ((reachT bs.length a n 0 != 0) = true)) := by
      by_cases h1 : reachT bs.length a n 0 = 0
      · right; left
        refine ⟨by simp [h1], ?_⟩
        have hn2 : ¬ 0 < n := fun x => h0 ⟨h1, x⟩
        have : ¬ n < 0 := fun x => by unfold reachT at h1; rw [if_pos x] at h1; omega
        simp; omega
      · left; simpa using h1
    rw [e2]
    clear e2 h0 h
    generalize reachT bs.length a n 0 = T at *
    have HR := Lib.hid hR
    clear hR
    rcases hT with hT | ⟨hT, h0⟩ | hT
    all_goals
      go_enter Try.func54, Try.ntmps54
      go_wp2_with (go_at_call 67; refine HR.out.mono ?_; rintro e w' ⟨rfl, rfl⟩)
      go_ret2
      exact ⟨_, rfl, .slice none 0 0, rfl, World.ownsRow_nil _ _ _ _, Fr.refl _ _⟩

set_option maxHeartbeats 2000000 in
theorem PutR (a : Int) (sv : Value) (zs : List Int) (w : World) (h : RSp w p g bs here last) (ha : i64 a) (B : Nat) (hs : Row8 w B sv zs) (hsg : 0 < zs.length → ∀ b, sv.ownBlock = some b → b ≠ g ∧ b < w.heap.size) :
    Calls Try.prog 55 #[.pointer (some ⟨p, 0, none⟩), .int .i64 a, sv] w fun e w' => e = .returned (.int .i64 (putT bs.length a zs.length)) ∧ Fr1 g w w' ∧ RSp w' p g (if putT bs.length a zs.length = 0 then poke bs (a - 65536).toNat zs else bs) here last := by
  have hzb := hs.bytes
  have hzl := hs.len
  obtain ⟨A, cap, rfl, h1, h2, _, h4⟩ := hs
  have hR := reachR a zs.length 1 true w h ha ⟨by omega, by omega⟩ (.inl rfl)
  rw [rwT_put] at hR
  obtain ⟨m, hm⟩ : ∃ m, zs.length = m := ⟨_, rfl⟩
  have HH := Lib.hid h
  have c0 := h.obj.cell 0
  simp at c0
  have hl := h.len
  have hne := h.ne
  have hgl := h.row.lt
  have hpl := h.obj.lt
  by_cases h0 : putT bs.length a zs.length = 0
  · rw [if_pos h0, h0]
    rw [h0] at hR
    rcases Nat.eq_zero_or_pos zs.length with hz0 | hz0
    · have e : zs = [] := List.eq_nil_of_length_eq_zero hz0
      subst e
      rw [poke_nil]
      clear h4 h0 h hm
      have HR := Lib.hid hR
      clear hR
      go_enter Try.func55, Try.ntmps55
      go_wp2_with (go_at_call 67; refine HR.out.mono ?_; rintro e w' ⟨rfl, rfl⟩)
      refine wp_loop_rounds 1 ?_
      rw [rounds_succ]
      go_wp2
      go_ret
      exact ⟨rfl, Fr.refl _ _, HH.out⟩
    · obtain ⟨k1, k2, _⟩ := reachT_zero h0 (by omega)
      obtain ⟨b, o, rfl, hb, hc⟩ := h4 hz0
      obtain ⟨off, rfl⟩ : ∃ off : Nat, a = 65536 + (off : Int) := ⟨(a - 65536).toNat, by omega⟩
      rw [show (65536 + (off : Int) - 65536).toNat = off by omega]
      obtain ⟨hbg, hbl⟩ := hsg hz0 b rfl
      have hi : off + zs.length ≤ bs.length := by omega
      have HC := Lib.hid hc
      have HZ := Lib.hid hm
      have HZB := Lib.hid hzb
      rw [hm] at hR hi h1 h2 ⊢
      have HR := Lib.hid hR
      clear hR hc h0 hm h4 h k1 k2 hsg hzb hzl hz0
      go_enter Try.func55, Try.ntmps55
      go_wp2_with (go_at_call 67; refine HR.out.mono ?_; rintro e w' ⟨rfl, rfl⟩)
      go_loopw [8] (fun i wr => ∃ k : Nat, k ≤ m ∧ i = .int .i64 k ∧ Fr1 g w wr ∧ Blk wr g 5 (cells8 (poke bs off (zs.take k)))) (fun i _ => m - (intOf i).toNat)
      case atStart => exact ⟨0, by omega, rfl, Fr.refl _ w, by rw [List.take_zero, poke_nil]; exact HH.out.row⟩
      case round =>
        obtain ⟨k, hk, rfl, hf, hb2⟩ := hrel
        by_cases hlt : k < m
        · obtain ⟨x, hx⟩ : ∃ x, zs[k]? = some x := ⟨zs[k]'(by rw [HZ.out]; exact hlt), List.getElem?_eq_getElem _⟩
          have hlk : (zs.take k).length = k := by simp; rw [HZ.out]; omega
          have hc := hb2.cell (off + k)
          have hz := hb2.frozen (off + k)
          have hl2 : off + k < (poke bs off (zs.take k)).length := by rw [poke_length _ _ _ (by rw [hlk]; omega)]; omega
          rw [cells8_at, List.getElem?_eq_getElem hl2] at hc
          simp only [Option.map_some] at hc
          have hc0 := (hf.cell (p := ⟨p, 0, none⟩) hpl hne).trans c0
          have hcs := (hf.cell (p := ⟨b, o + k, none⟩) hbl hbg).trans (HC.out k x hx)
          have HB := Lib.hid hb2
          have HF := Lib.hid hf
          have HX := Lib.hid hx
          have HLK := Lib.hid hlk
          clear hb2 hf hx hlk
          go_wp2
          go_region
          go_wp2
          refine ⟨⟨k + 1, by omega, by go_num, (HF.out.setCell (.inl rfl) _).drew, ?_⟩, by simp [intOf]; omega⟩
          have hkz : k < zs.length := by rw [HZ.out]; exact hlt
          have e1 : zs.take (k + 1) = zs.take k ++ [x] := by
            rw [List.take_succ_eq_append_getElem hkz]
            have h5 := HX.out
            rw [List.getElem?_eq_getElem hkz] at h5
            rw [Option.some.inj h5]
          rw [e1, poke_snoc _ _ _ _ (by rw [HLK.out]; omega), HLK.out, ← cells8_set]
          exact (HB.out.set_ _ _).drew
        · obtain rfl : k = m := by omega
          go_wp2
          go_ret
          have e1 : zs.take k = zs := by rw [← HZ.out, List.take_length]
          rw [e1] at hb2
          exact ⟨rfl, hf, HH.out.row_ hf _ (poke_length _ _ _ (by rw [HZ.out]; exact hi)) (poke_bytes HH.out.byt HZB.out _) hb2⟩
  · rw [if_neg h0]
    have hb0 : (putT bs.length a zs.length == 0) = false := by simpa using h0
    clear h4 h0 h
    rw [hm] at hR hb0 h1 h2 hzl ⊢
    generalize putT bs.length a m = T at *
    have HR := Lib.hid hR
    clear hR hm
    go_enter Try.func55, Try.ntmps55
    go_wp2_with (go_at_call 67; refine HR.out.mono ?_; rintro e w' ⟨rfl, rfl⟩)
    go_ret
    exact ⟨rfl, Fr.refl _ _, HH.out⟩
end
end Go.Proofs.Ytkgihajpobajaaa
