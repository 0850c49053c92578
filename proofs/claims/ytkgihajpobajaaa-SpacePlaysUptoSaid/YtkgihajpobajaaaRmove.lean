/- The document's data space: Fill, Move, Up, Down, Allot, SetHere, Align, System. -/
import Derived.Test.YtkgihajpobajaaaRmore
namespace Go.Proofs.Ytkgihajpobajaaa
open Go Go.RowKit

theorem own8_lo {w : World} {base : Nat} {v : Value} {zs : List Int} (h : Own8 w base v zs) : ∀ k, v.ownBlock = some k → base ≤ k ∧ k < w.heap.size := by
  rcases h.2 with ⟨rfl, _⟩ | ⟨g, cap, cur, rfl, hb, hg, _⟩
  · intro k hk; cases hk
  · intro k hk
    simp only [Value.ownBlock, Option.some.injEq] at hk
    subst hk
    exact ⟨hb, (Array.getElem?_eq_some_iff.1 hg).1⟩
section
variable {p g : Nat} {bs : List Int} {here last : Int}
set_option maxHeartbeats 2000000 in
theorem FillR (a n v : Int) (w : World) (h : RSp w p g bs here last) (ha : i64 a) (hn : i64 n) :
    Calls Try.prog 56 #[.pointer (some ⟨p, 0, none⟩), .int .i64 a, .int .i64 n, .int .i64 v] w fun e w' => e = .returned (.int .i64 (putT bs.length a n)) ∧ Fr1 g w w' ∧ RSp w' p g (fillB bs a n v) here last := by
  have hR := reachR a n 1 true w h ha hn (.inl rfl)
  rw [rwT_put] at hR
  have HH := Lib.hid h
  have c0 := h.obj.cell 0
  simp at c0
  have hl := h.len
  have hne := h.ne
  have hgl := h.row.lt
  have hpl := h.obj.lt
  unfold fillB
  by_cases h0 : putT bs.length a n = 0
  · rw [if_pos h0, h0]
    rw [h0] at hR
    by_cases hn0 : n = 0
    · subst hn0
      rw [show (0 : Int).toNat = 0 from rfl, show reps 0 (v % 256) = [] from rfl, poke_nil]
      clear h0 h
      have HR := Lib.hid hR
      clear hR
      go_enter Try.func56, Try.ntmps56
      go_wp2_with (go_at_call 67; refine HR.out.mono ?_; rintro e w' ⟨rfl, rfl⟩)
      refine wp_loop_rounds 1 ?_
      rw [rounds_succ]
      go_wp2
      go_ret
      exact ⟨rfl, Fr.refl _ _, HH.out⟩
    · have hn1 : 1 ≤ n := by
        have : ¬ n < 0 := fun x => by unfold putT reachT at h0; rw [if_pos x] at h0; omega
        omega
      obtain ⟨k1, k2, _⟩ := reachT_zero h0 hn1
      obtain ⟨off, rfl⟩ : ∃ off : Nat, a = 65536 + (off : Int) := ⟨(a - 65536).toNat, by omega⟩
      obtain ⟨m, rfl⟩ : ∃ m : Nat, n = (m : Int) := ⟨n.toNat, by omega⟩
      rw [show (65536 + (off : Int) - 65536).toNat = off by omega, Int.toNat_natCast]
      have hi : off + m ≤ bs.length := by omega
      have hx := wrap8 v
      obtain ⟨x, hxv⟩ : ∃ x, v % 256 = x := ⟨_, rfl⟩
      have hxb : 0 ≤ x ∧ x ≤ 255 := by omega
      rw [hxv] at hx ⊢
      have HR := Lib.hid hR
      clear hR h0 h k1 k2 hxv hn1 hn0
      go_enter Try.func56, Try.ntmps56
      go_wp2_with (go_at_call 67; refine HR.out.mono ?_; rintro e w' ⟨rfl, rfl⟩)
      go_loopw [10] (fun i wr => ∃ k : Nat, k ≤ m ∧ i = .int .i64 k ∧ Fr1 g w wr ∧ Blk wr g 5 (cells8 (poke bs off (reps k x)))) (fun i _ => m - (intOf i).toNat)
      case atStart => exact ⟨0, by omega, rfl, Fr.refl _ w, by rw [show reps 0 x = [] from rfl, poke_nil]; exact HH.out.row⟩
      case round =>
        obtain ⟨k, hk, rfl, hf, hb2⟩ := hrel
        by_cases hlt : k < m
        · have hc := hb2.cell (off + k)
          have hz := hb2.frozen (off + k)
          have hl2 : off + k < (poke bs off (reps k x)).length := by rw [poke_length _ _ _ (by rw [reps_length]; omega)]; omega
          rw [cells8_at, List.getElem?_eq_getElem hl2] at hc
          simp only [Option.map_some] at hc
          have hc0 := (hf.cell (p := ⟨p, 0, none⟩) hpl hne).trans c0
          have HB := Lib.hid hb2
          have HF := Lib.hid hf
          clear hb2 hf
          go_wp2
          have hl3 := reps_length k x
          refine ⟨⟨k + 1, by omega, by go_num, HF.out.setCell (.inl rfl) _, ?_⟩, by simp [intOf]; omega⟩
          rw [reps_succ, poke_snoc _ _ _ _ (by omega), hl3, ← cells8_set]
          exact HB.out.set_ _ _
        · obtain rfl : k = m := by omega
          go_wp2
          go_ret
          exact ⟨rfl, hf, HH.out.row_ hf _ (poke_length _ _ _ (by rw [reps_length]; exact hi)) (poke_bytes HH.out.byt (reps_bytes _ _ hxb) _) hb2⟩
  · rw [if_neg h0]
    have hb0 : (putT bs.length a n == 0) = false := by simpa using h0
    clear h0 h
    generalize putT bs.length a n = T at *
    have HR := Lib.hid hR
    clear hR
    go_enter Try.func56, Try.ntmps56
    go_wp2_with (go_at_call 67; refine HR.out.mono ?_; rintro e w' ⟨rfl, rfl⟩)
    go_ret
    exact ⟨rfl, Fr.refl _ _, HH.out⟩

set_option maxHeartbeats 1000000 in
theorem bothR (f t n : Int) (w : World) (h : RSp w p g bs here last) (hf : i64 f) (ht : i64 t) (hn : i64 n) :
    Calls Try.prog 70 #[.pointer (some ⟨p, 0, none⟩), .int .i64 f, .int .i64 t, .int .i64 n] w fun e w' => e = .returned (.int .i64 (bothT bs.length f t n)) ∧ w = w' := by
  have h1 := reachR f n 1 false w h hf hn (.inl rfl)
  have h2 := reachR t n 1 true w h ht hn (.inl rfl)
  rw [rwT_bytes] at h1
  rw [rwT_put] at h2
  unfold bothT
  clear h
  by_cases h0 : reachT bs.length f n 0 = 0
  · rw [if_pos h0]
    rw [h0] at h1
    generalize putT bs.length t n = T at *
    have H1 := Lib.hid h1
    have H2 := Lib.hid h2
    clear h1 h2 h0
    go_enter Try.func70, Try.ntmps70
    go_wp2_with fail
    refine H1.out.mono ?_
    rintro e w' ⟨rfl, rfl⟩
    go_wp2_with fail
    refine H2.out.mono ?_
    rintro e w' ⟨rfl, rfl⟩
    go_wp2_with fail
    go_ret
    exact ⟨rfl, rfl⟩
  · rw [if_neg h0]
    have hb : (reachT bs.length f n 0 != 0) = true := by simpa using h0
    generalize reachT bs.length f n 0 = T at *
    have H1 := Lib.hid h1
    clear h1 h2 h0
    go_enter Try.func70, Try.ntmps70
    go_wp2_with fail
    refine H1.out.mono ?_
    rintro e w' ⟨rfl, rfl⟩
    go_wp2_with fail
    go_ret
    exact ⟨rfl, rfl⟩

set_option maxHeartbeats 1000000 in
theorem MoveR (f t n : Int) (w : World) (h : RSp w p g bs here last) (hf : i64 f) (ht : i64 t) (hn : i64 n) :
    Calls Try.prog 57 #[.pointer (some ⟨p, 0, none⟩), .int .i64 f, .int .i64 t, .int .i64 n] w fun e w' => e = .returned (.int .i64 (bothT bs.length f t n)) ∧ Fr1 g w w' ∧ RSp w' p g (moveB bs f t n) here last := by
  have hB := bothR f t n w h hf ht hn
  unfold moveB
  by_cases h0 : bothT bs.length f t n = 0
  · rw [if_pos h0, h0]
    rw [h0] at hB
    have hr0 : reachT bs.length f n 0 = 0 := by
      unfold bothT at h0
      split at h0
      · assumption
      · exact absurd h0 (by assumption)
    have hp0 : putT bs.length t n = 0 := by
      unfold bothT at h0
      rw [if_pos hr0] at h0
      exact h0
    have hnn : 0 ≤ n := by
      have : ¬ n < 0 := fun x => by unfold reachT at hr0; rw [if_pos x] at hr0; omega
      omega
    have hbv : bytesV bs f n = (bs.drop (f - 65536).toNat).take n.toNat := by unfold bytesV; rw [if_pos hr0]
    have hbl : (bytesV bs f n).length = n.toNat := by
      rw [hbv]
      rcases Int.lt_or_eq_of_le hnn with h1 | h1
      · obtain ⟨k1, k2, _⟩ := reachT_zero hr0 (by omega)
        simp; omega
      · rw [← h1]; simp
    have hb8 := bytesV_bytes h.byt f n
    have hBy := BytesR f n w h hf hn
    rw [← hbv]
    generalize bytesV bs f n = cs at *
    rw [hr0] at hBy
    have HBO := Lib.hid hB
    have HBY := Lib.hid hBy
    have HP := Lib.hid (show putT bs.length t (cs.length : Int) = 0 by rw [hbl, Int.toNat_of_nonneg hnn]; exact hp0)
    have hl := h.len
    have hcl : cs.length ≤ 9223372036854775807 := by
      rw [hbl]
      rcases Int.lt_or_eq_of_le hnn with h1 | h1
      · obtain ⟨k1, k2, _⟩ := reachT_zero hr0 (by omega)
        omega
      · rw [← h1]; simp
    have HH := Lib.hid h
    clear hB hBy h0 hr0 hp0 hbv hbl h
    go_enter Try.func57, Try.ntmps57
    go_wp2_with (first | (go_at_call 70; refine HBO.out.mono ?_; rintro e w' ⟨rfl, rfl⟩) | (go_at_call 54; refine HBY.out.mono ?_; rintro e w1 ⟨_, rfl, u, rfl, hou, hf1⟩))
    have hlo := own8_lo hou
    refine (PutR t u cs _ (HH.out.fr0 hf1) ht _ (hou.row hb8 hcl) (fun _ b hb => ⟨by have := hlo b hb; have := HH.out.row.lt; omega, (hlo b hb).2⟩)).mono ?_
    rw [HP.out]
    rintro e w2 ⟨rfl, hf2, hr2⟩
    rw [if_pos rfl] at hr2
    go_wp2
    go_ret
    exact ⟨rfl, hf1.of0.trans hf2, hr2⟩
  · rw [if_neg h0]
    have hb0 : (bothT bs.length f t n == 0) = false := by simpa using h0
    generalize bothT bs.length f t n = T at *
    have HBO := Lib.hid hB
    have HH := Lib.hid h
    clear hB h h0
    go_enter Try.func57, Try.ntmps57
    go_wp2_with (go_at_call 70; refine HBO.out.mono ?_; rintro e w' ⟨rfl, rfl⟩)
    go_ret
    exact ⟨rfl, Fr.refl _ _, HH.out⟩

set_option maxHeartbeats 2000000 in
theorem UpR (f t n : Int) (w : World) (h : RSp w p g bs here last) (hf : i64 f) (ht : i64 t) (hn : i64 n) :
    Calls Try.prog 58 #[.pointer (some ⟨p, 0, none⟩), .int .i64 f, .int .i64 t, .int .i64 n] w fun e w' => e = .returned (.int .i64 (bothT bs.length f t n)) ∧ Fr1 g w w' ∧ RSp w' p g (upB bs f t n) here last := by
  have hB := bothR f t n w h hf ht hn
  have HH := Lib.hid h
  have c0 := h.obj.cell 0
  simp at c0
  have hl := h.len
  have hne := h.ne
  have hgl := h.row.lt
  have hpl := h.obj.lt
  unfold upB
  by_cases h0 : bothT bs.length f t n = 0
  · rw [if_pos h0, h0]
    rw [h0] at hB
    by_cases hn0 : 1 ≤ n
    · obtain ⟨k1, k2, k3, k4, k5, k6⟩ := bothT_zero h0 hn0
      obtain ⟨fo, rfl⟩ : ∃ o : Nat, f = 65536 + (o : Int) := ⟨(f - 65536).toNat, by omega⟩
      obtain ⟨to, rfl⟩ : ∃ o : Nat, t = 65536 + (o : Int) := ⟨(t - 65536).toNat, by omega⟩
      obtain ⟨m, rfl⟩ : ∃ m : Nat, n = (m : Int) := ⟨n.toNat, by omega⟩
      rw [show (65536 + (fo : Int) - 65536).toNat = fo by omega, show (65536 + (to : Int) - 65536).toNat = to by omega, Int.toNat_natCast]
      have b1 : fo + m ≤ bs.length := by omega
      have b2 : to + m ≤ bs.length := by omega
      have HB := Lib.hid hB
      clear hB h0 h k1 k2 k3 k4 k5 k6 hf ht hn hn0
      go_enter Try.func58, Try.ntmps58
      go_wp2_with (go_at_call 70; refine HB.out.mono ?_; rintro e w' ⟨rfl, rfl⟩)
      go_loopw [10] (fun i wr => ∃ k : Nat, k ≤ m ∧ i = .int .i64 k ∧ Fr1 g w wr ∧ Blk wr g 5 (cells8 (cpys fo to bs (List.range k)))) (fun i _ => m - (intOf i).toNat)
      case atStart => exact ⟨0, by omega, rfl, Fr.refl _ w, HH.out.row⟩
      case round =>
        obtain ⟨k, hk, rfl, hfr, hb⟩ := hrel
        by_cases hlt : k < m
        · have hll : (cpys fo to bs (List.range k)).length = bs.length := cpys_length _ _ _ _
          have hc := hb.cell (fo + k)
          rw [cells8_at, List.getElem?_eq_getElem (by omega)] at hc
          simp only [Option.map_some] at hc
          have hc2 := hb.cell (to + k)
          rw [cells8_at, List.getElem?_eq_getElem (by omega)] at hc2
          simp only [Option.map_some] at hc2
          have hz2 := hb.frozen (to + k)
          obtain ⟨x, hx⟩ : ∃ x, (cpys fo to bs (List.range k))[fo + k] = x := ⟨_, rfl⟩
          obtain ⟨y, hy⟩ : ∃ y, (cpys fo to bs (List.range k))[to + k] = y := ⟨_, rfl⟩
          rw [hx] at hc
          rw [hy] at hc2
          have HX : Hid (cpys fo to bs (List.range (k + 1)) = (cpys fo to bs (List.range k)).set (to + k) x) := by
            show _ = _
            rw [List.range_succ, cpys_snoc, cpy, List.getD_eq_getElem?_getD, List.getElem?_eq_getElem (by omega), Option.getD_some, hx]
          have hc0 := (hfr.cell (p := ⟨p, 0, none⟩) hpl hne).trans c0
          have HB2 := Lib.hid hb
          have HF := Lib.hid hfr
          clear hx hy hll hb hfr
          go_wp2
          go_region
          go_wp2
          refine ⟨⟨k + 1, by omega, by go_num, (HF.out.setCell (.inl rfl) _).drew, ?_⟩, by simp [intOf]; omega⟩
          rw [HX.out, ← cells8_set]
          exact (HB2.out.set_ _ _).drew
        · obtain rfl : k = m := by omega
          go_wp2
          go_ret
          exact ⟨rfl, hfr, HH.out.row_ hfr _ (cpys_length _ _ _ _) (cpys_bytes HH.out.byt _ _ _) hb⟩
    · have hn1 : n = 0 := by
        have : ¬ n < 0 := fun x => by unfold bothT at h0; unfold reachT at h0; rw [if_pos x] at h0; simp at h0
        omega
      subst hn1
      have er : cpys (f - 65536).toNat (t - 65536).toNat bs (List.range (0 : Int).toNat) = bs := rfl
      rw [er]
      have HB := Lib.hid hB
      clear hB h0 h er
      go_enter Try.func58, Try.ntmps58
      go_wp2_with (go_at_call 70; refine HB.out.mono ?_; rintro e w' ⟨rfl, rfl⟩)
      refine wp_loop_rounds 1 ?_
      rw [rounds_succ]
      go_wp2
      go_ret
      exact ⟨rfl, Fr.refl _ _, HH.out⟩
  · rw [if_neg h0]
    have hb0 : (bothT bs.length f t n == 0) = false := by simpa using h0
    generalize bothT bs.length f t n = T at *
    have HB := Lib.hid hB
    clear hB h h0
    go_enter Try.func58, Try.ntmps58
    go_wp2_with (go_at_call 70; refine HB.out.mono ?_; rintro e w' ⟨rfl, rfl⟩)
    go_ret
    exact ⟨rfl, Fr.refl _ _, HH.out⟩

set_option maxHeartbeats 2000000 in
theorem DownR (f t n : Int) (w : World) (h : RSp w p g bs here last) (hf : i64 f) (ht : i64 t) (hn : i64 n) :
    Calls Try.prog 59 #[.pointer (some ⟨p, 0, none⟩), .int .i64 f, .int .i64 t, .int .i64 n] w fun e w' => e = .returned (.int .i64 (bothT bs.length f t n)) ∧ Fr1 g w w' ∧ RSp w' p g (dnB bs f t n) here last := by
  have hB := bothR f t n w h hf ht hn
  have HH := Lib.hid h
  have c0 := h.obj.cell 0
  simp at c0
  have hl := h.len
  have hne := h.ne
  have hgl := h.row.lt
  have hpl := h.obj.lt
  unfold dnB
  by_cases h0 : bothT bs.length f t n = 0
  · rw [if_pos h0, h0]
    rw [h0] at hB
    by_cases hn0 : 1 ≤ n
    · obtain ⟨k1, k2, k3, k4, k5, k6⟩ := bothT_zero h0 hn0
      obtain ⟨fo, rfl⟩ : ∃ o : Nat, f = 65536 + (o : Int) := ⟨(f - 65536).toNat, by omega⟩
      obtain ⟨to, rfl⟩ : ∃ o : Nat, t = 65536 + (o : Int) := ⟨(t - 65536).toNat, by omega⟩
      obtain ⟨m, rfl⟩ : ∃ m : Nat, n = (m : Int) := ⟨n.toNat, by omega⟩
      rw [show (65536 + (fo : Int) - 65536).toNat = fo by omega, show (65536 + (to : Int) - 65536).toNat = to by omega, Int.toNat_natCast]
      have b1 : fo + m ≤ bs.length := by omega
      have b2 : to + m ≤ bs.length := by omega
      have HB := Lib.hid hB
      clear hB h0 h k1 k2 k3 k4 k5 k6 hf ht hn hn0
      go_enter Try.func59, Try.ntmps59
      go_wp2_with (go_at_call 70; refine HB.out.mono ?_; rintro e w' ⟨rfl, rfl⟩)
      go_loopw [10] (fun i wr => ∃ k : Nat, k ≤ m ∧ i = .int .i64 ((m : Int) - 1 - k) ∧ Fr1 g w wr ∧ Blk wr g 5 (cells8 (cpys fo to bs ((List.range k).map fun i => m - 1 - i)))) (fun i _ => (intOf i + 1).toNat)
      case atStart => exact ⟨0, by omega, by simp, Fr.refl _ w, HH.out.row⟩
      case round =>
        obtain ⟨k, hk, rfl, hfr, hb⟩ := hrel
        by_cases hlt : k < m
        · obtain ⟨j, hj⟩ : ∃ j : Nat, m = k + 1 + j := ⟨m - 1 - k, by omega⟩
          have hll : (cpys fo to bs ((List.range k).map fun i => m - 1 - i)).length = bs.length := cpys_length _ _ _ _
          have hc := hb.cell (fo + j)
          rw [cells8_at, List.getElem?_eq_getElem (by omega)] at hc
          simp only [Option.map_some] at hc
          have hc2 := hb.cell (to + j)
          rw [cells8_at, List.getElem?_eq_getElem (by omega)] at hc2
          simp only [Option.map_some] at hc2
          have hz2 := hb.frozen (to + j)
          obtain ⟨x, hx⟩ : ∃ x, (cpys fo to bs ((List.range k).map fun i => m - 1 - i))[fo + j] = x := ⟨_, rfl⟩
          obtain ⟨y, hy⟩ : ∃ y, (cpys fo to bs ((List.range k).map fun i => m - 1 - i))[to + j] = y := ⟨_, rfl⟩
          rw [hx] at hc
          rw [hy] at hc2
          have HX : Hid (cpys fo to bs ((List.range (k + 1)).map fun i => m - 1 - i) = (cpys fo to bs ((List.range k).map fun i => m - 1 - i)).set (to + j) x) := by
            show _ = _
            rw [List.range_succ, List.map_append, List.map_cons, List.map_nil, cpys_snoc, show m - 1 - k = j by omega, cpy, List.getD_eq_getElem?_getD, List.getElem?_eq_getElem (by omega), Option.getD_some, hx]
          rw [show ((m : Int) - 1 - k) = (j : Int) by omega]
          have HJ := Lib.hid hj
          have jlt : j < m := by omega
          have hc0 := (hfr.cell (p := ⟨p, 0, none⟩) hpl hne).trans c0
          have HB2 := Lib.hid hb
          have HF := Lib.hid hfr
          clear hx hy hll hj hb hfr
          go_wp2
          go_region
          go_wp2
          refine ⟨⟨k + 1, by omega, by have := HJ.out; congr 1 <;> omega, (HF.out.setCell (.inl rfl) _).drew, ?_⟩, by simp [intOf]⟩
          rw [HX.out, ← cells8_set]
          exact (HB2.out.set_ _ _).drew
        · obtain rfl : k = m := by omega
          rw [show ((k : Int) - 1 - k) = -1 by omega]
          go_wp2
          go_ret
          exact ⟨rfl, hfr, HH.out.row_ hfr _ (cpys_length _ _ _ _) (cpys_bytes HH.out.byt _ _ _) hb⟩
    · have hn1 : n = 0 := by
        have : ¬ n < 0 := fun x => by unfold bothT at h0; unfold reachT at h0; rw [if_pos x] at h0; simp at h0
        omega
      subst hn1
      have er : cpys (f - 65536).toNat (t - 65536).toNat bs ((List.range (0 : Int).toNat).map fun i => (0 : Int).toNat - 1 - i) = bs := rfl
      rw [er]
      have HB := Lib.hid hB
      clear hB h0 h er
      go_enter Try.func59, Try.ntmps59
      go_wp2_with (go_at_call 70; refine HB.out.mono ?_; rintro e w' ⟨rfl, rfl⟩)
      refine wp_loop_rounds 1 ?_
      rw [rounds_succ]
      go_wp2
      go_ret
      exact ⟨rfl, Fr.refl _ _, HH.out⟩
  · rw [if_neg h0]
    have hb0 : (bothT bs.length f t n == 0) = false := by simpa using h0
    generalize bothT bs.length f t n = T at *
    have HB := Lib.hid hB
    clear hB h h0
    go_enter Try.func59, Try.ntmps59
    go_wp2_with (go_at_call 70; refine HB.out.mono ?_; rintro e w' ⟨rfl, rfl⟩)
    go_ret
    exact ⟨rfl, Fr.refl _ _, HH.out⟩

/-- HERE turns. -/
theorem RSp.toHere {w : World} (h : RSp w p g bs here last) (x : Int) : RSp (w.setCell ⟨p, 1, none⟩ (.int .i64 x)) p g bs x last :=
  ⟨by have := h.obj.set_ 1 (.int .i64 x); simpa using this, h.row.far (p := ⟨p, 1, none⟩) (Ne.symm h.ne) _, h.byt, h.len⟩
theorem RSp.drewN {w : World} (h : RSp w p g bs here last) (n : Nat) : RSp (w.drewN n) p g bs here last := ⟨h.obj.drewN n, h.row.drewN n, h.byt, h.len⟩

set_option maxHeartbeats 1000000 in
theorem SystemR (a v : Int) (w : World) (h : RSp w p g bs here last) (ha : i64 a) (hv : i64 v) :
    Calls Try.prog 63 #[.pointer (some ⟨p, 0, none⟩), .int .i64 a, .int .i64 v] w fun e w' => e = .returned (.tuple #[]) ∧ Fr1 g w w' ∧ RSp w' p g (sysB bs a v) here last := by
  have hR := reachR a 8 8 false w h ha ⟨by omega, by omega⟩ (by decide)
  rw [rwT_read] at hR
  obtain ⟨hv1, hv2⟩ := hv
  unfold sysB
  by_cases h0 : reachT bs.length a 8 (alignT 8 a) = 0
  · obtain ⟨k1, k2, _⟩ := reachT_zero h0 (by omega)
    rw [if_pos h0]
    rw [h0] at hR
    obtain ⟨off, rfl⟩ : ∃ off : Nat, a = 65536 + (off : Int) := ⟨(a - 65536).toNat, by omega⟩
    have hG := setR off 8 v w h (by omega) (by omega)
    rw [show (65536 + (off : Int) - 65536).toNat = off by omega]
    have HR := Lib.hid hR
    have HG := Lib.hid hG
    clear hR hG h h0 k1 k2 ha
    go_enter Try.func63, Try.ntmps63
    go_wp2_with (go_at_call 67; refine HR.out.mono ?_; rintro e w' ⟨rfl, rfl⟩)
    refine HG.out.mono ?_
    rintro e w1 ⟨rfl, hf, hr⟩
    go_wp2
    go_end0
    exact ⟨rfl, hf, hr⟩
  · rw [if_neg h0]
    have hb0 : (reachT bs.length a 8 (alignT 8 a) == 0) = false := by simpa using h0
    generalize reachT bs.length a 8 (alignT 8 a) = T at *
    have HR := Lib.hid hR
    have HH := Lib.hid h
    clear hR h0 h
    go_enter Try.func63, Try.ntmps63
    go_wp2_with (go_at_call 67; refine HR.out.mono ?_; rintro e w' ⟨rfl, rfl⟩)
    go_end0
    exact ⟨rfl, Fr.refl _ _, HH.out⟩
end
end Go.Proofs.Ytkgihajpobajaaa
