/- The document's own heap: size, find, cut. -/
import Derived.Test.YtedmdobfnkmccaaHref
namespace Go.Proofs.Ytedmdobfnkmccaa
open Go Go.RowKit

set_option maxHeartbeats 1000000 in
theorem size_ok (n : Int) (w : World) (h0 : 0 ≤ n) (h1 : n ≤ 2147483647) :
    Calls Try.prog 26 #[.int .i64 n] w fun e w' => e = .returned (.tuple #[.int .i64 (rnd n), .bool true]) ∧ w' = w := by
  by_cases hn : n = 0
  · subst hn
    go_enter Try.func26, Try.ntmps26
    go_wp2
    go_ret2
    exact ⟨rfl, rfl⟩
  · have hn' : (n == 0) = false := by simp [hn]
    have hr : rnd n = (n + 7) / 8 * 8 := by unfold rnd; omega
    rw [hr]
    clear hr hn
    go_enter Try.func26, Try.ntmps26
    go_wp2
    go_ret2
    exact ⟨rfl, rfl⟩
set_option maxHeartbeats 1000000 in
theorem size_err (n : Int) (w : World) (h0 : n < 0 ∨ 2147483647 < n) :
    Calls Try.prog 26 #[.int .i64 n] w fun e w' => e = .returned (.tuple #[.int .i64 0, .bool false]) ∧ w' = w := by
  rcases h0 with h0 | h0
  · go_enter Try.func26, Try.ntmps26
    go_wp2
    go_ret2
    exact ⟨rfl, rfl⟩
  · go_enter Try.func26, Try.ntmps26
    go_wp2
    go_ret2
    exact ⟨rfl, rfl⟩

/-- The place of a taken block. -/
def findI (a : Int) (L : List Bk) : Int := match pick (takenAt a) L with
  | none => -1
  | some (A, _, _) => A.length

section
variable {rp base : Nat} {sv : Value} {L : List Bk} {c d : Int}

set_option maxHeartbeats 4000000 in
theorem find_any (a : Int) (w : World) (h : RRep w rp base sv L) (hlen : L.length ≤ 1000000) :
    Calls Try.prog 28 #[ptr rp, .int .i64 a] w fun e w' => e = .returned (.int .i64 (findI a L)) ∧ w' = w := by
  have c0 := h.obj.cell 0
  have HH := Lib.hid h
  obtain ⟨A0, cap, rfl, hcap⟩ := h.row.len_
  clear h
  obtain ⟨r, hr⟩ : ∃ r, findI a L = r := ⟨_, rfl⟩
  have HR := Lib.hid hr
  rw [hr]
  clear hr
  rw [show ptr rp = .pointer (some ⟨rp, 0, none⟩) from rfl]
  go_enter Try.func28, Try.ntmps28
  go_wp2
  go_loopw [5] (fun i wr => ∃ k : Nat, k ≤ L.length ∧ i = .int .i64 k ∧ wr = w ∧ ∀ y ∈ L.take k, takenAt a y = false) (fun i _ => L.length - (intOf i).toNat)
  case atStart => exact ⟨0, by omega, rfl, rfl, fun y hy => by simp at hy⟩
  case round =>
    obtain ⟨k, hk, rfl, rfl, hA⟩ := hrel
    by_cases hlt : k < L.length
    · obtain ⟨x, hx⟩ : ∃ x, L[k]? = some x := ⟨L[k], List.getElem?_eq_getElem hlt⟩
      obtain ⟨g, cap', e, hg1, hg2⟩ := HH.out.row.form (by omega)
      injection e with e1 e2 e3
      subst e1 e3
      obtain ⟨d0, d1, d2⟩ := HH.out.row.cells hx
      have hsp : L = L.take k ++ x :: L.drop (k + 1) := by
        conv => lhs; rw [← List.take_append_drop k L]
        rw [List.drop_eq_getElem_cons hlt]
        have : L[k] = x := by rw [List.getElem?_eq_getElem hlt] at hx; simpa using hx
        rw [this]
      have hstep : takenAt a x = false → ∃ k1 : Nat, k1 ≤ L.length ∧ Value.int .i64 ((k : Int) + 1) = .int .i64 k1 ∧ True ∧ ∀ y ∈ L.take k1, takenAt a y = false := fun hxf => by
        refine ⟨k + 1, by omega, by push_cast; rfl, trivial, fun y hy => ?_⟩
        rw [List.take_add_one, hx] at hy
        rcases List.mem_append.1 hy with hy | hy
        · exact hA y hy
        · simp at hy; subst hy; exact hxf
      have HST := Lib.hid hstep
      have HS := Lib.hid hsp
      have HA := Lib.hid hA
      clear hx hsp hA hstep
      obtain ⟨xa, xs, xf⟩ := x
      dsimp only at d0 d1 d2
      by_cases hxa : xa = a
      · have hxa' : (xa == a) = true := by simp [hxa]
        cases xf with
        | true =>
          go_wp2
          refine ⟨HST.out (by simp [takenAt]), by simp [intOf]; omega⟩
        | false =>
          go_wp2
          go_ret
          refine ⟨?_, rfl⟩
          have hr := HR.out
          unfold findI at hr
          rw [HS.out, pick_app HA.out (by simp [takenAt, hxa])] at hr
          rw [← hr]
          simp only [List.length_take]
          rw [Nat.min_eq_left hk]
          rfl
      · have hxa' : (xa == a) = false := by simp [hxa]
        go_wp2
        refine ⟨HST.out (by simp [takenAt, hxa]), by simp [intOf]; omega⟩
    · obtain rfl : k = L.length := by omega
      rw [List.take_length] at hA
      have hr := HR.out
      unfold findI at hr
      rw [pick_none hA] at hr
      subst hr
      clear hA HR
      go_wp2
      go_ret
      exact ⟨rfl, rfl⟩

theorem rowB_pre {w : World} {g cap : Nat} {t : TypeId} {A B : List Bk} (h : OwnB w base t (.slice (some ⟨g, 0, none⟩) (A ++ B).length cap) (A ++ B)) (cap' : Nat) : Src w (.slice (some ⟨g, 0, none⟩) A.length cap') A.length 3 (rowB A) := by
  refine ⟨rowB_length A, _, _, rfl, fun hp => ⟨g, 0, rfl, fun j u hj => ?_⟩⟩
  obtain ⟨_, A', c', e, hc⟩ := own_src h
  obtain ⟨b, off, e2, hc⟩ := hc (by simp; omega)
  injection e with e1
  rw [← e1] at e2
  injection e2 with e2
  injection e2 with e3 e4
  subst e3 e4
  refine hc j u ?_
  rw [rowB_app, List.getElem?_append_left (List.getElem?_eq_some_iff.1 hj).1]
  exact hj
theorem rowB_suf {w : World} {g cap off : Nat} {t : TypeId} {A B : List Bk} (h : OwnB w base t (.slice (some ⟨g, 0, none⟩) (A ++ B).length cap) (A ++ B)) (cap' : Nat) (hoff : off = A.length * 3) : Src w (.slice (some ⟨g, off, none⟩) B.length cap') B.length 3 (rowB B) := by
  subst hoff
  refine ⟨rowB_length B, _, _, rfl, fun hp => ⟨g, _, rfl, fun j u hj => ?_⟩⟩
  obtain ⟨_, A', c', e, hc⟩ := own_src h
  obtain ⟨b, off, e2, hc⟩ := hc (by simp; omega)
  injection e with e1
  rw [← e1] at e2
  injection e2 with e2
  injection e2 with e3 e4
  subst e3 e4
  have := hc (A.length * 3 + j) u (by
    rw [rowB_app, List.getElem?_append_right (by rw [rowB_length]; omega), rowB_length, Nat.add_sub_cancel_left]
    exact hj)
  rw [Nat.zero_add] at this
  exact this

end
end Go.Proofs.Ytedmdobfnkmccaa
