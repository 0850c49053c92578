/- slices.BinarySearch over a rising row of ints. -/
import Derived.Test.YtmhjnbolngdijaaLib
import Derived.Test.YtmhjnbolngdijaaGrow2
import Derived.Test.YtmhjnbolngdijaaChecked
import Derived.LoopTactic
namespace Go.Proofs.Ytmhjnbolngdijaa
open Go Go.RowKit
set_option linter.unusedVariables false

theorem isNaN1_any (a : Int) (w : World) : Calls Try.prog 73 #[.int .i64 a] w fun e w' => e = .returned (.bool false) ∧ w = w' := by
  go_enter Try.func73, Try.ntmps73
  go_wp2
  go_ret
  exact ⟨rfl, rfl⟩
theorem isNaN2_any (a : Int) (w : World) : Calls Try.prog 69 #[.int .i64 a] w fun e w' => e = .returned (.bool false) ∧ w = w' := by
  go_enter Try.func69, Try.ntmps69
  go_wp2
  go_ret
  exact ⟨rfl, rfl⟩
theorem Less_any (a b : Int) (w : World) : Calls Try.prog 68 #[.int .i64 a, .int .i64 b] w fun e w' => e = .returned (.bool (decide (a < b))) ∧ w = w' := by
  go_enter Try.func68, Try.ntmps68
  go_wp2_with (go_at_call 73; refine (isNaN1_any _ _).mono ?_; rintro e w' ⟨rfl, rfl⟩)
  go_ret
  exact ⟨rfl, rfl⟩

/-- A row of ints that is read. -/
def RdI (w : World) (v : Value) (ts : List Int) : Prop := Rd w v ts.length 1 (ts.map (Value.int .i64))
theorem RdI.at_ {w : World} {A : Option Addr} {n cap k : Nat} {ts : List Int} {x : Int} (h : RdI w (.slice A n cap) ts) (hx : ts[k]? = some x) : ∃ b off, A = some ⟨b, off, none⟩ ∧ w.cell? ⟨b, off + k, none⟩ = some (.int .i64 x) := by
  obtain ⟨_, A', cap', e, h2⟩ := h
  injection e with e1 e2 e3
  subst e1
  have hk : k < ts.length := (List.getElem?_eq_some_iff.1 hx).1
  obtain ⟨b, off, e, hc⟩ := h2 (by omega)
  exact ⟨b, off, e, hc k _ (by rw [List.getElem?_map, hx]; rfl)⟩
theorem RdI.form {w : World} {v : Value} {ts : List Int} (h : RdI w v ts) : ∃ A cap, v = .slice A ts.length cap := by
  obtain ⟨_, A, cap, e, _⟩ := h
  exact ⟨A, cap, e⟩

set_option maxRecDepth 100000 in
set_option maxHeartbeats 4000000 in
theorem Bin_any (v : Value) (ts : List Int) (t : Int) (w : World) (h : RdI w v ts) (hl : ts.length ≤ 1000000) (hs : ∀ (i j : Nat) (x y : Int), i < j → ts[i]? = some x → ts[j]? = some y → x < y) :
    Calls Try.prog 60 #[v, .int .i64 t] w fun e w' => (∃ i : Nat, e = .returned (.tuple #[.int .i64 i, .bool (decide (ts[i]? = some t))]) ∧ i ≤ ts.length ∧ (∀ (a : Nat) (x : Int), a < i → ts[a]? = some x → x < t) ∧ (∀ (a : Nat) (x : Int), i ≤ a → ts[a]? = some x → t ≤ x)) ∧ w = w' := by
  obtain ⟨A, cap, rfl⟩ := h.form
  have HV := Lib.hid h
  have HS := Lib.hid hs
  obtain ⟨n, hn⟩ : ∃ n, ts.length = n := ⟨_, rfl⟩
  have HN := Lib.hid hn
  rw [hn] at HV hl ⊢
  clear h hs hn
  go_enter Try.func60, Try.ntmps60
  go_wp2_with fail
  go_loopw [7, 8] (fun u1 u2 wr => ∃ lo hi : Nat, u1 = .int .i64 lo ∧ u2 = .int .i64 hi ∧ lo ≤ hi ∧ hi ≤ n ∧ w = wr ∧ (∀ (a : Nat) (x : Int), a < lo → ts[a]? = some x → x < t) ∧ (∀ (a : Nat) (x : Int), hi ≤ a → ts[a]? = some x → t ≤ x)) (fun u1 u2 _ => (intOf u2).toNat - (intOf u1).toNat)
  case atStart => exact ⟨0, n, rfl, rfl, by omega, by omega, rfl, fun a x h => by omega, fun a x h hx => by have := (List.getElem?_eq_some_iff.1 hx).1; rw [HN.out] at this; omega⟩
  case round =>
    obtain ⟨lo, hi, rfl, rfl, hlh, hhn, rfl, hlo, hhi⟩ := hrel
    by_cases hlt : lo < hi
    · have hltI : (lo : Int) < (hi : Int) := by omega
      obtain ⟨m, hm⟩ : ∃ m, (lo + hi) / 2 = m := ⟨_, rfl⟩
      obtain ⟨x, hx⟩ : ∃ x, ts[m]? = some x := ⟨_, List.getElem?_eq_getElem (by rw [HN.out]; omega)⟩
      obtain ⟨b, off, rfl, hc⟩ := HV.out.at_ hx
      have HX := Lib.hid hx
      have HLO := Lib.hid hlo
      have HHI := Lib.hid hhi
      have x1 : IntKind.i64.wrap ((lo : Int) + (hi : Int)) = (lo : Int) + (hi : Int) := IntWalk.i64_in _ (by omega)
      clear hlo hhi hx
      by_cases hxt : x < t
      · go_wp2_with (go_at_call 68; refine (Less_any _ _ _).mono ?_; rintro e w' ⟨rfl, rfl⟩)
        have e1 : ((lo : Int) + (hi : Int)) / 2 + 1 = ((m + 1 : Nat) : Int) := by omega
        rw [e1]
        exact ⟨⟨m + 1, hi, rfl, rfl, by omega, hhn, trivial, fun a y ha hy => by
          rcases Nat.lt_or_ge a m with h | h
          · have := HS.out a m y x h hy HX.out
            omega
          · obtain rfl : a = m := by omega
            rw [HX.out] at hy
            injection hy with hy
            omega, HHI.out⟩, by simp [intOf]; omega⟩
      · have hxt' : t ≤ x := by omega
        go_wp2_with (go_at_call 68; refine (Less_any _ _ _).mono ?_; rintro e w' ⟨rfl, rfl⟩)
        have e1 : ((lo : Int) + (hi : Int)) / 2 = (m : Int) := by omega
        rw [e1]
        exact ⟨⟨lo, m, rfl, rfl, by omega, by omega, trivial, HLO.out, fun a y ha hy => by
          rcases Nat.lt_or_ge m a with h | h
          · have := HS.out m a x y h HX.out hy
            omega
          · obtain rfl : a = m := by omega
            rw [HX.out] at hy
            injection hy with hy
            omega⟩, by simp [intOf]; omega⟩
    · obtain rfl : lo = hi := by omega
      have HLO := Lib.hid hlo
      have HHI := Lib.hid hhi
      clear hlo hhi
      by_cases hln : lo < n
      · have hlnI : (lo : Int) < (n : Int) := by omega
        obtain ⟨x, hx⟩ : ∃ x, ts[lo]? = some x := ⟨_, List.getElem?_eq_getElem (by rw [HN.out]; exact hln)⟩
        obtain ⟨b, off, rfl, hc⟩ := HV.out.at_ hx
        have HX := Lib.hid hx
        clear hx
        by_cases hxt : x = t
        · subst hxt
          go_wp2_with fail
          go_ret2
          exact ⟨⟨lo, by rw [HX.out]; simp, by omega, HLO.out, HHI.out⟩, rfl⟩
        · have hq : (x == t) = false := by simp; exact hxt
          go_wp2_with (go_at_call 69; refine (isNaN2_any _ _).mono ?_; rintro e w' ⟨rfl, rfl⟩)
          go_ret2
          exact ⟨⟨lo, by rw [HX.out]; simp [hxt], by omega, HLO.out, HHI.out⟩, rfl⟩
      · obtain rfl : lo = n := by omega
        go_wp2_with fail
        go_ret2
        exact ⟨⟨lo, by rw [List.getElem?_eq_none (by rw [HN.out]; exact Nat.le_refl _)]; simp, by omega, HLO.out, HHI.out⟩, rfl⟩
end Go.Proofs.Ytmhjnbolngdijaa
