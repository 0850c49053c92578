/- The document's Same over two rows of bytes. -/
import Derived.Test.YtmhjnbolngdijaaLow
import Derived.Test.YtmhjnbolngdijaaByt
import Derived.LoopTactic
namespace Go.Proofs.Ytmhjnbolngdijaa
open Go Go.RowKit
set_option linter.unusedVariables false

def upB (b : Int) : Int := if 97 ≤ b ∧ b ≤ 122 then b - 32 else b
theorem fold_any (b : Int) (hb : 0 ≤ b ∧ b ≤ 255) (w : World) : Calls Try.prog 36 #[.int .u8 b] w fun e w' => e = .returned (.int .u8 (upB b)) ∧ w = w' := by
  unfold upB
  rcases (show b < 97 ∨ (97 ≤ b ∧ b ≤ 122) ∨ (97 ≤ b ∧ 122 < b) by omega) with h | ⟨h, h2⟩ | ⟨h, h2⟩
  · rw [if_neg (by omega)]
    go_enter Try.func36, Try.ntmps36
    go_wp2
    go_ret
    exact ⟨rfl, rfl⟩
  · rw [if_pos ⟨h, h2⟩]
    have x1 : IntKind.u8.wrap (b - 32) = b - 32 := IntWalk.u8_in _ (by omega)
    go_enter Try.func36, Try.ntmps36
    go_wp2
    go_ret
    exact ⟨rfl, rfl⟩
  · rw [if_neg (by omega)]
    go_enter Try.func36, Try.ntmps36
    go_wp2
    go_ret
    exact ⟨rfl, rfl⟩
theorem up_low (a b : Int) : upB a = upB b ↔ low a = low b := by
  unfold upB low
  constructor
  · intro h
    split at h <;> split at h <;> split <;> split <;> omega
  · intro h
    split at h <;> split at h <;> split <;> split <;> omega

/-- Two names are the same, whatever their case, just where they are the same with small letters. -/
theorem low_same (a b : List Int) : lowL a = lowL b ↔ a.length = b.length ∧ ∀ (i : Nat) (x y : Int), a[i]? = some x → b[i]? = some y → upB x = upB y := by
  constructor
  · intro h
    have hl : a.length = b.length := by
      have := congrArg List.length h
      simpa [lowL] using this
    refine ⟨hl, fun i x y hx hy => (up_low x y).2 ?_⟩
    have := congrArg (fun l => l[i]?) h
    simp only [lowL, List.getElem?_map, hx, hy, Option.map_some, Option.some.injEq] at this
    exact this
  · rintro ⟨hl, h⟩
    apply List.ext_getElem?
    intro i
    simp only [lowL, List.getElem?_map]
    cases hx : a[i]? with
    | none =>
      have : b[i]? = none := by
        rw [List.getElem?_eq_none_iff] at hx ⊢
        omega
      rw [this]
    | some x =>
      have hi := (List.getElem?_eq_some_iff.1 hx).1
      have hy := List.getElem?_eq_getElem (show i < b.length by omega)
      rw [hy]
      simp only [Option.map_some]
      rw [(up_low x _).1 (h i x _ hx hy)]

set_option maxRecDepth 100000 in
set_option maxHeartbeats 4000000 in
theorem Same_any (a b : List Int) (g1 g2 c1 c2 : Nat) (w : World) (h1 : Byt w g1 a) (h2 : Byt w g2 b) (ha : ∀ x ∈ a, 0 ≤ x ∧ x ≤ 255) (hb : ∀ x ∈ b, 0 ≤ x ∧ x ≤ 255) (hal : a.length ≤ 1000000) :
    Calls Try.prog 12 #[.slice (some ⟨g1, 0, none⟩) a.length c1, .slice (some ⟨g2, 0, none⟩) b.length c2] w fun e w' => e = .returned (.bool (decide (lowL a = lowL b))) ∧ Fr0 w w' := by
  have hls := low_same a b
  have HA := Lib.hid h1
  have HB := Lib.hid h2
  have HAB := Lib.hid ha
  have HBB := Lib.hid hb
  obtain ⟨n, hn⟩ : ∃ n, a.length = n := ⟨_, rfl⟩
  obtain ⟨k, hk⟩ : ∃ k, b.length = k := ⟨_, rfl⟩
  have HN := Lib.hid hn
  have HK := Lib.hid hk
  rw [hn, hk] at hls
  rw [hn] at hal
  rw [hn, hk]
  clear h1 h2 ha hb hn hk
  by_cases hnk : n = k
  · subst hnk
    obtain ⟨r, hr⟩ : ∃ r, decide (lowL a = lowL b) = r := ⟨_, rfl⟩
    rw [hr]
    have HR := Lib.hid hr
    have HLS := Lib.hid hls
    clear hr hls
    go_enter Try.func12, Try.ntmps12
    go_wp2_with fail
    go_loopw [5] (fun i wr => ∃ j : Nat, j ≤ n ∧ i = .int .i64 j ∧ (∃ d, wr = w.drewN d) ∧ ∀ (t : Nat) (x y : Int), t < j → a[t]? = some x → b[t]? = some y → upB x = upB y) (fun i _ => n - (intOf i).toNat)
    case atStart => exact ⟨0, by omega, rfl, ⟨0, rfl⟩, fun t x y h => by omega⟩
    case round =>
      obtain ⟨j, hj, rfl, ⟨d, rfl⟩, hsf⟩ := hrel
      by_cases hjn : j < n
      · have hjI : (j : Int) < (n : Int) := by omega
        obtain ⟨x, hx⟩ : ∃ x, a[j]? = some x := ⟨_, List.getElem?_eq_getElem (by rw [HN.out]; exact hjn)⟩
        obtain ⟨y, hy⟩ : ∃ y, b[j]? = some y := ⟨_, List.getElem?_eq_getElem (by rw [HK.out]; exact hjn)⟩
        have e1 : (w.drewN d).cell? ⟨g1, j, none⟩ = some (.int .u8 x) := HA.out.cell hx
        have e2 : (w.drewN d).cell? ⟨g2, j, none⟩ = some (.int .u8 y) := HB.out.cell hy
        have HFX := Lib.hid (fun V => fold_any x (HAB.out x (List.mem_of_getElem? hx)) V)
        have HFY := Lib.hid (fun V => fold_any y (HBB.out y (List.mem_of_getElem? hy)) V)
        have HX := Lib.hid hx
        have HY := Lib.hid hy
        have HSF := Lib.hid hsf
        clear hx hy hsf
        by_cases hxy : upB x = upB y
        · rw [← hxy] at HFY
          go_wp2_with fail
          go_region_held3 (fun V => V.cell? ⟨g1, j, none⟩ = some (.int .u8 x) ∧ V.cell? ⟨g2, j, none⟩ = some (.int .u8 y)) (exact ⟨e1, e2⟩) ((first | (go_at_call 36; (with_reducible refine (HFX.out _).mono ?_); rintro e w' ⟨rfl, rfl⟩) | (go_at_call 36; (with_reducible refine (HFY.out _).mono ?_); rintro e w' ⟨rfl, rfl⟩)))
          all_goals
            go_wp2_with fail
            refine ⟨⟨j + 1, by omega, by push_cast; rfl, ⟨_, rfl⟩, fun t x' y' ht hx' hy' => ?_⟩, by simp [intOf]; omega⟩
            rcases Nat.lt_or_ge t j with h | h
            · exact HSF.out t x' y' h hx' hy'
            · obtain rfl : t = j := by omega
              rw [HX.out] at hx'
              rw [HY.out] at hy'
              injection hx' with hx'
              injection hy' with hy'
              rw [← hx', ← hy']
              exact hxy
        · have hq : (upB x == upB y) = false := by simp; exact hxy
          have hrf : r = false := by
            rw [← HR.out]
            refine decide_eq_false fun e => hxy ?_
            exact (HLS.out.1 e).2 j x y HX.out HY.out
          subst hrf
          go_wp2_with fail
          go_region_held3 (fun V => V.cell? ⟨g1, j, none⟩ = some (.int .u8 x) ∧ V.cell? ⟨g2, j, none⟩ = some (.int .u8 y)) (exact ⟨e1, e2⟩) ((first | (go_at_call 36; (with_reducible refine (HFX.out _).mono ?_); rintro e w' ⟨rfl, rfl⟩) | (go_at_call 36; (with_reducible refine (HFY.out _).mono ?_); rintro e w' ⟨rfl, rfl⟩)))
          all_goals
            go_wp2_with fail
            go_ret
            exact ⟨rfl, (Fr.refl _ w).drewN _⟩
      · obtain rfl : j = n := by omega
        have hrt : r = true := by
          rw [← HR.out]
          refine decide_eq_true (HLS.out.2 ⟨by trivial, fun i x y hx hy => hsf i x y ?_ hx hy⟩)
          have := (List.getElem?_eq_some_iff.1 hx).1
          rw [HN.out] at this
          exact this
        subst hrt
        clear hsf
        go_wp2_with fail
        go_ret
        exact ⟨rfl, (Fr.refl _ w).drewN _⟩
  · have hd : decide (lowL a = lowL b) = false := decide_eq_false fun e => hnk (hls.1 e).1
    rw [hd]
    have hq : ((n : Int) == (k : Int)) = false := by simp; omega
    have hq2 : ¬ ((n : Int) = (k : Int)) := by omega
    clear hls
    go_enter Try.func12, Try.ntmps12
    go_wp2_with fail
    go_ret
    exact ⟨rfl, Fr.refl _ _⟩
end Go.Proofs.Ytmhjnbolngdijaa
