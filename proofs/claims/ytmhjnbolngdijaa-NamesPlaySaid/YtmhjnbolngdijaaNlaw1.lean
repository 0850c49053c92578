/- The law of chapter 14: much, word, begun. -/
import Derived.Test.YtmhjnbolngdijaaNsteps
import Derived.Test.YtmhjnbolngdijaaRn5
namespace Go.Proofs.Ytmhjnbolngdijaa
open Go Go.RowKit
set_option linter.unusedVariables false
attribute [local go_sem] Oper.semAt_some

/-- Is a script more than is looked at? -/
def muchB (len : Nat) (f : Nat → Stp) : Bool := decide (150 < len) || (List.range len).any fun i => decide (100 < (f i).name.length) || decide (100 < (f i).ls.length)
theorem muchB_false {len : Nat} {f : Nat → Stp} (h : muchB len f = false) : len ≤ 150 ∧ ∀ i, i < len → (f i).name.length ≤ 100 ∧ (f i).ls.length ≤ 100 := by
  unfold muchB at h
  simp only [Bool.or_eq_false_iff, decide_eq_false_iff_not, List.any_eq_false, List.mem_range] at h
  refine ⟨by omega, fun i hi => ?_⟩
  have := h.2 i hi
  simp at this
  omega
set_option maxRecDepth 100000 in
set_option maxHeartbeats 4000000 in
theorem much_any (a : Option Addr) (len cap : Nat) (f : Nat → Stp) (B : Nat) (w : World) (h : RowN w B a len cap f) : Calls Try.prog 21 #[.slice a len cap] w fun e w' => e = .returned (.bool (muchB len f)) ∧ w = w' := by
  have HH := Lib.hid h
  have hml : (len : Int) ≤ 9223372036854775807 := by have := h.le; have := h.cap; omega
  clear h
  obtain ⟨r, hr⟩ : ∃ r, muchB len f = r := ⟨_, rfl⟩
  have HR := Lib.hid hr
  rw [hr]
  clear hr
  by_cases h1 : 150 < len
  · have hrt : r = true := by rw [← HR.out]; unfold muchB; simp [h1]
    subst hrt
    have h1I : (150 : Int) < (len : Int) := by omega
    go_enter Try.func21, Try.ntmps21
    go_wp2_with fail
    go_ret
    exact ⟨rfl, rfl⟩
  · have h1I : (len : Int) ≤ 150 := by omega
    go_enter Try.func21, Try.ntmps21
    go_wp2_with fail
    go_loopw [3] (fun i wr => ∃ j : Nat, j ≤ len ∧ i = .int .i64 j ∧ w = wr ∧ ∀ k, k < j → (f k).name.length ≤ 100 ∧ (f k).ls.length ≤ 100) (fun i _ => len - (intOf i).toNat)
    case atStart => exact ⟨0, by omega, rfl, rfl, fun k hk => by omega⟩
    case round =>
      obtain ⟨j, hj, rfl, rfl, hall⟩ := hrel
      have HALL := Lib.hid hall
      clear hall
      by_cases hjl : j < len
      · have hjI : (j : Int) < (len : Int) := by omega
        obtain ⟨b, off, rfl, hb, _, d1, _, _, _, _, _, d7⟩ := HH.out.at_ hjl
        have hsz : (strOfNums (f j).name).size = (f j).name.length := strOfNums_size _
        obtain ⟨A, c, hl, _⟩ := (HH.out.ok j hjl).l
        rw [hl] at d7
        obtain ⟨n1, hn1⟩ : ∃ n1, (f j).name.length = n1 := ⟨_, rfl⟩
        obtain ⟨n2, hn2⟩ : ∃ n2, (f j).ls.length = n2 := ⟨_, rfl⟩
        have HN1 := Lib.hid hn1
        have HN2 := Lib.hid hn2
        rw [hn1] at hsz
        rw [hn2] at d7
        clear hn1 hn2 hl
        have hbad : ¬ (n1 ≤ 100 ∧ n2 ≤ 100) → r = true := fun hh => by
          rw [← HR.out]
          unfold muchB
          rw [Bool.or_eq_true]
          refine .inr (List.any_eq_true.2 ⟨j, List.mem_range.2 hjl, ?_⟩)
          simp [HN1.out, HN2.out]
          omega
        have HBAD := Lib.hid hbad
        clear hbad
        by_cases g1 : n1 ≤ 100
        · have g1I : (n1 : Int) ≤ 100 := by omega
          by_cases g2 : n2 ≤ 100
          · have g2I : (n2 : Int) ≤ 100 := by omega
            go_wp2_with fail
            refine ⟨⟨j + 1, by omega, by push_cast; rfl, trivial, fun k hk => ?_⟩, by simp [intOf]; omega⟩
            rcases Nat.lt_or_ge k j with h | h
            · exact HALL.out k h
            · obtain rfl : k = j := by omega
              rw [HN1.out, HN2.out]
              exact ⟨g1, g2⟩
          · have g2I : (100 : Int) < (n2 : Int) := by omega
            obtain rfl := HBAD.out (by omega)
            go_wp2_with fail
            go_ret
            exact ⟨rfl, rfl⟩
        · have g1I : (100 : Int) < (n1 : Int) := by omega
          obtain rfl := HBAD.out (by omega)
          go_wp2_with fail
          go_ret
          exact ⟨rfl, rfl⟩
      · obtain rfl : j = len := by omega
        have hrf : r = false := by
          rw [← HR.out]
          unfold muchB
          rw [Bool.or_eq_false_iff]
          refine ⟨decide_eq_false h1, List.any_eq_false.2 fun k hk => ?_⟩
          have := HALL.out k (List.mem_range.1 hk)
          simp
          omega
        subst hrf
        go_wp2_with fail
        go_ret
        exact ⟨rfl, rfl⟩

set_option maxRecDepth 100000 in
set_option maxHeartbeats 4000000 in
theorem word_any (a b : Wd) (ha : ∀ x ∈ a.name, 0 ≤ x ∧ x ≤ 255) (hb : ∀ x ∈ b.name, 0 ≤ x ∧ x ≤ 255) (w : World) : Calls Try.prog 31 #[a.val, b.val] w fun e w' => e = .returned (.bool (eqWd a b)) ∧ Fr0 w w' := by
  have hf : Fr0 w ((w.alloc (.cells #[.string (strOfNums a.name), .int .i64 a.xt, .int .i64 a.list, .bool a.imm, .bool a.only] 30)).alloc (.cells #[.string (strOfNums b.name), .int .i64 b.xt, .int .i64 b.list, .bool b.imm, .bool b.only] 71)) := ((Fr.refl _ w).alloc _).alloc _
  have hs : a.name ≠ b.name → ((strOfNums a.name).toList == (strOfNums b.name).toList) = false := fun hne => by
    simp
    exact fun e => hne (str_inj ha hb (toList_ba e))
  have HF := Lib.hid hf
  have HS := Lib.hid hs
  unfold Wd.val eqWd
  clear hf hs ha hb
  obtain ⟨an, ax, al, ai, ao⟩ := a
  obtain ⟨bn, bx, bl, bi, bo⟩ := b
  dsimp only at *
  by_cases h1 : an = bn
  · subst h1
    rw [decide_eq_true rfl]
    by_cases h2 : ax = bx
    · subst h2
      rw [decide_eq_true rfl]
      by_cases h3 : al = bl
      · subst h3
        rw [decide_eq_true rfl]
        by_cases h4 : ai = bi
        · subst h4
          rw [decide_eq_true rfl]
          cases ao <;> cases bo
          all_goals
            go_enter Try.func31, Try.ntmps31
            go_wp2_with fail
            go_ret
            exact ⟨by simp, HF.out⟩
        · rw [decide_eq_false h4]
          cases ai <;> cases bi
          all_goals first | exact absurd rfl h4 | skip
          all_goals
            go_enter Try.func31, Try.ntmps31
            go_wp2_with fail
            go_ret
            exact ⟨by simp, HF.out⟩
      · rw [decide_eq_false h3]
        have hq : (al == bl) = false := by simp; exact h3
        go_enter Try.func31, Try.ntmps31
        go_wp2_with fail
        go_ret
        exact ⟨by simp, HF.out⟩
    · rw [decide_eq_false h2]
      have hq : (ax == bx) = false := by simp; exact h2
      go_enter Try.func31, Try.ntmps31
      go_wp2_with fail
      go_ret
      exact ⟨by simp, HF.out⟩
  · rw [decide_eq_false h1]
    have hse := HS.out h1
    go_enter Try.func31, Try.ntmps31
    go_wp2_with fail
    go_ret
    exact ⟨by simp, HF.out⟩

/-- The law's pair: names c, the document's d, rows of marks. -/
def TwoO (w : World) (x c d : Nat) (mv kv : Value) : Prop := Blk w x 56 #[.pointer (some ⟨c, 0, none⟩), .pointer (some ⟨d, 0, none⟩), mv, kv]
set_option maxRecDepth 100000 in
set_option maxHeartbeats 2000000 in
theorem begun_any (zero : Bool) (w : World) : Calls Try.prog 22 #[.bool zero] w fun e w' => ∃ x c d S R, e = .returned (.pointer (some ⟨x, 0, none⟩)) ∧ TwoO w' x c d (.slice none 0 0) (.slice none 0 0) ∧ NgS w' w.heap.size c initSt S ∧ (zero = false → NgI w' w.heap.size c initSt S) ∧ RnS w' w.heap.size d initSt R ∧ w.heap.size ≤ x ∧ (∀ k, S k → ¬ R k ∧ k ≠ x) ∧ (∀ k, R k → k ≠ x) ∧ Fr0 w w' := by
  have HNW := Lib.hid (New_ng w)
  cases zero with
  | false =>
    go_enter Try.func22, Try.ntmps22
    go_wp2_with (first | (go_at_call 10; refine HNW.out.mono ?_; rintro e w1 ⟨c, S, rfl, hN, hf⟩; have HN := Lib.hid hN; have HF := Lib.hid hf; clear hN hf) | (go_at_call 45; refine (New_rn w1).mono ?_; rintro e w2 ⟨d, R, rfl, hR, hf2⟩; have HR := Lib.hid hR; have HF2 := Lib.hid hf2; clear hR hf2))
    go_ret
    have hfa := (Fr.refl (fun _ => False) w2).alloc (.cells #[.pointer (some ⟨c, 0, none⟩), .pointer (some ⟨d, 0, none⟩), .slice none 0 0, .slice none 0 0] 56)
    have hb := Blk.new w2 56 #[.pointer (some ⟨c, 0, none⟩), .pointer (some ⟨d, 0, none⟩), .slice none 0 0, .slice none 0 0]
    have hN := (HN.out.fr0 HF2.out).fr0 hfa
    refine ⟨w2.heap.size, c, d, S, R, rfl, hb, .inl hN, fun _ => hN, (HR.out.mono HF.out.size).fr0 hfa, Nat.le_trans HF.out.size HF2.out.size, fun k hk => ?_, fun k hk e => ?_, (HF.out.trans HF2.out).trans hfa⟩
    · have h1 := (HN.out.lo hk).2
      have := HF2.out.size
      exact ⟨fun e => by have := (HR.out.lo e).1; omega, by omega⟩
    · have := (HR.out.lo hk).2
      omega
  | true =>
    go_enter Try.func22, Try.ntmps22
    go_wp2_with (first | (go_at_call 10; refine HNW.out.mono ?_; rintro e w1 ⟨c, S, rfl, hN, hf⟩; have HN := Lib.hid hN; have HF := Lib.hid hf; clear hN hf) | (go_at_call 45; refine (New_rn w1).mono ?_; rintro e w2 ⟨d, R, rfl, hR, hf2⟩; have HR := Lib.hid hR; have HF2 := Lib.hid hf2; clear hR hf2))
    go_ret
    have hfa : Fr0 w2 ((w2.alloc (.cells #[.pointer (some ⟨w2.heap.size + 1, 0, none⟩), .pointer (some ⟨d, 0, none⟩), .slice none 0 0, .slice none 0 0] 56)).alloc (.cells #[.slice none 0 0, .int .i64 0, .slice none 0 0, .int .i64 0, .map none] 79)) := ((Fr.refl _ w2).alloc _).alloc _
    have hb : Blk ((w2.alloc (.cells #[.pointer (some ⟨w2.heap.size + 1, 0, none⟩), .pointer (some ⟨d, 0, none⟩), .slice none 0 0, .slice none 0 0] 56)).alloc (.cells #[.slice none 0 0, .int .i64 0, .slice none 0 0, .int .i64 0, .map none] 79)) w2.heap.size 56 #[.pointer (some ⟨w2.heap.size + 1, 0, none⟩), .pointer (some ⟨d, 0, none⟩), .slice none 0 0, .slice none 0 0] := (Blk.new w2 _ _).alloc _
    have hz : NgZ ((w2.alloc (.cells #[.pointer (some ⟨w2.heap.size + 1, 0, none⟩), .pointer (some ⟨d, 0, none⟩), .slice none 0 0, .slice none 0 0] 56)).alloc (.cells #[.slice none 0 0, .int .i64 0, .slice none 0 0, .int .i64 0, .map none] 79)) (w2.heap.size + 1) := by
      have := Blk.new (w2.alloc (.cells #[.pointer (some ⟨w2.heap.size + 1, 0, none⟩), .pointer (some ⟨d, 0, none⟩), .slice none 0 0, .slice none 0 0] 56)) 79 #[.slice none 0 0, .int .i64 0, .slice none 0 0, .int .i64 0, .map none]
      unfold NgZ
      simpa using this
    have h1 := HF.out.size
    have h2 := HF2.out.size
    have h3 := hfa.size
    refine ⟨w2.heap.size, w2.heap.size + 1, d, fun k => k = w2.heap.size + 1, R, rfl, hb, .inr ⟨hz, rfl, rfl, by omega, by omega⟩, (fun h => by cases h), (HR.out.mono h1).fr0 hfa, by omega, fun k hk => ?_, fun k hk e => ?_, (HF.out.trans HF2.out).trans hfa⟩
    · have hk' : k = w2.heap.size + 1 := hk
      exact ⟨fun e => by have := (HR.out.lo e).2; omega, by omega⟩
    · have := (HR.out.lo hk).2
      omega
end Go.Proofs.Ytmhjnbolngdijaa
