/- The laws' own small functions of chapter 11: blocks, where. -/
import Derived.Test.YtedmdobfnkmccaaHlaw
namespace Go.Proofs.Ytedmdobfnkmccaa
open Go Go.RowKit

section
variable {w : World} {B B' : Nat} {u v : Value} {L : List Bk}

set_option maxHeartbeats 4000000 in
theorem blocks_same (w : World) (hu : OwnB w B 57 u L) (hv : OwnB w B' 62 v L) (hlen : L.length ≤ 1000000) :
    Calls Try.prog 12 #[u, v] w fun e w' => e = .returned (.bool true) ∧ Fr0 w w' := by
  have HU := Lib.hid hu
  have HV := Lib.hid hv
  obtain ⟨A1, cap1, rfl, _⟩ := hu.len_
  obtain ⟨A2, cap2, rfl, _⟩ := hv.len_
  clear hu hv
  go_enter Try.func12, Try.ntmps12
  go_wp2
  go_loopw [5] (fun i wr => ∃ k : Nat, k ≤ L.length ∧ i = .int .i64 k ∧ Fr0 w wr) (fun i _ => L.length - (intOf i).toNat)
  case atStart => exact ⟨0, by omega, rfl, Fr.refl _ _⟩
  case round =>
    obtain ⟨k, hk, rfl, hfr⟩ := hrel
    by_cases hlt : k < L.length
    · obtain ⟨x, hx⟩ : ∃ x, L[k]? = some x := ⟨L[k], List.getElem?_eq_getElem hlt⟩
      obtain ⟨g, c1, e, hg1, hg2⟩ := HU.out.form (by omega)
      injection e with e1 e2 e3
      subst e1 e3
      obtain ⟨g', c2, e, hg1', hg2'⟩ := HV.out.form (by omega)
      injection e with e1 e2 e3
      subst e1 e3
      obtain ⟨d0, d1, d2⟩ := (HU.out.fr0 hfr).cells hx
      obtain ⟨p0, p1, p2⟩ := (HV.out.fr0 hfr).cells hx
      have HF := Lib.hid hfr
      clear hx hfr e2
      obtain ⟨xa, xs, xf⟩ := x
      dsimp only at d0 d1 d2 p0 p1 p2
      have hkl : (k : Int) < (L.length : Int) := by omega
      go_wp2_with fail
      go_quiet (fail)
      go_wp2
      exact ⟨⟨k + 1, by omega, by push_cast; rfl, HF.out.drewN _⟩, by simp [intOf]; omega⟩
    · obtain rfl : k = L.length := by omega
      go_wp2
      go_ret
      exact ⟨rfl, hfr⟩
end

/-- A row of ints of its own. -/
def OwnI (w : World) (base : Nat) (v : Value) (zs : List Int) : Prop := w.ownsRow base 3 1 v zs.length (zs.map (Value.int .i64))

set_option maxHeartbeats 2000000 in
theorem where_any (w : World) {B : Nat} {v : Value} {l : List Int} (k n K at_ : Int) (hv : OwnI w B v l) (hlen : l.length ≤ 1000000) (hK : -9223372036854775808 ≤ K ∧ K ≤ 9223372036854775807) :
    Calls Try.prog 19 #[.agg #[.int .i64 k, .int .i64 n, .int .i64 K, .int .i64 at_], v] w fun e w' => ∃ a, e = .returned (.int .i64 a) ∧ Fr0 w w' := by
  by_cases ha : at_ = 0
  · have ha' : (at_ != 0) = false := by simp [ha]
    cases l with
    | nil =>
      obtain ⟨A1, cap1, rfl⟩ := own_form hv
      simp only [List.length_nil]
      clear hv ha
      go_enter Try.func19, Try.ntmps19
      go_wp2
      go_ret
      exact ⟨_, rfl, (Fr.refl _ w).alloc _⟩
    | cons z l =>
      obtain ⟨hl0, A1, cap1, e, hc⟩ := own_src hv
      obtain ⟨b, off, rfl, hc2⟩ := hc (by simp)
      subst e
      clear hc
      have hlo := own_lo hv b rfl
      have hcell : ∀ j, j < l.length + 1 → ∃ y, w.cell? ⟨b, off + j, none⟩ = some (.int .i64 y) := fun j hj => by
        have hj2 : j < (z :: l).length := by simpa using hj
        have h1 : ((z :: l).map (Value.int .i64))[j]? = some (.int .i64 (z :: l)[j]) := by
          rw [List.getElem?_map, List.getElem?_eq_getElem hj2]
          rfl
        exact ⟨_, hc2 j _ h1⟩
      rw [List.length_cons] at *
      obtain ⟨N, hN⟩ : ∃ N, l.length + 1 = N := ⟨_, rfl⟩
      rw [hN] at hcell hlen ⊢
      have hN0 : 0 < N := by omega
      clear hc2 hv hl0 hN ha
      obtain ⟨hK1, hK2⟩ := hK
      by_cases hKp : 0 ≤ K
      · obtain ⟨t, ht⟩ : ∃ t, K % (N : Int) = t := ⟨_, rfl⟩
        have ht0 : 0 ≤ t := by rw [← ht]; exact Int.emod_nonneg _ (by omega)
        have ht1 : t < N := by rw [← ht]; exact Int.emod_lt_of_pos _ (by omega)
        obtain ⟨j, rfl⟩ := Int.eq_ofNat_of_zero_le ht0
        obtain ⟨y, hy⟩ := hcell j (by omega)
        clear hcell
        go_enter Try.func19, Try.ntmps19
        go_wp2
        go_ret
        exact ⟨_, rfl, (Fr.refl _ w).alloc _⟩
      · have hKn : K < 0 := by omega
        have hm : K = -((-K).toNat : Int) := by omega
        obtain ⟨m, hm2⟩ : ∃ m, (-K).toNat = m := ⟨_, rfl⟩
        rw [hm2] at hm
        obtain ⟨t, ht⟩ : ∃ t, Int.tmod K (N : Int) = t := ⟨_, rfl⟩
        have ht2 : t = -((m % N : Nat) : Int) := by
          rw [← ht, hm, Int.neg_tmod]
          rfl
        have ht1 : m % N < N := Nat.mod_lt _ hN0
        obtain ⟨q, hq⟩ : ∃ q, m % N = q := ⟨_, rfl⟩
        rw [hq] at ht1 ht2
        subst ht2
        have hN0' : ((N : Int) == 0) = false := by simp; omega
        clear hq hm hm2 hKp
        by_cases hq0 : q = 0
        · subst hq0
          obtain ⟨y, hy⟩ := hcell 0 (by omega)
          rw [Nat.add_zero] at hy
          clear hcell
          simp only [Int.natCast_zero, Int.neg_zero] at ht
          go_enter Try.func19, Try.ntmps19
          go_wp2
          go_ret
          exact ⟨_, rfl, (Fr.refl _ w).alloc _⟩
        · obtain ⟨y, hy⟩ := hcell (N - q) (by omega)
          obtain ⟨j, hj⟩ : ∃ j, N - q = j := ⟨_, rfl⟩
          rw [hj] at hy
          obtain ⟨e, he⟩ : ∃ e : Int, -(q : Int) = e := ⟨_, rfl⟩
          rw [he] at ht
          have he0 : e < 0 := by omega
          have he1 : e + (N : Int) = (j : Int) := by omega
          have hj1 : j < N := by omega
          clear hcell hj he hq0
          go_enter Try.func19, Try.ntmps19
          go_wp2
          go_ret
          exact ⟨_, rfl, (Fr.refl _ w).alloc _⟩
  · have ha' : (at_ != 0) = true := by simp [ha]
    clear hv ha
    go_enter Try.func19, Try.ntmps19
    go_wp2
    go_ret
    exact ⟨_, rfl, (Fr.refl _ w).alloc _⟩
end Go.Proofs.Ytedmdobfnkmccaa
