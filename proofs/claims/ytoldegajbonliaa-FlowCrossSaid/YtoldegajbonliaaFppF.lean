/- Flow: pairs, as the law makes them. -/
import Derived.Test.YtoldegajbonliaaFpp
import Derived.Test.YtoldegajbonliaaFcl
namespace Go.Proofs.Ytoldegajbonliaa
open Go Go.RowKit
set_option linter.unusedVariables false
attribute [local go_sem] Oper.semAt_some

set_option maxRecDepth 100000 in
set_option maxHeartbeats 2000000 in
theorem begins_any (k : Int) (w : World) : Calls Try.prog 32 #[.int .i64 k] w fun e w' => ∃ v, e = .returned v ∧ Fr0 w w' ∧ RdI w' v (beginsV k) := by
  by_cases h1 : k = 1
  · subst h1
    go_enter Try.func32, Try.ntmps32
    go_wp2_with fail
    go_ret
    refine ⟨_, rfl, (Fr.refl _ w).alloc _, ?_⟩
    unfold RdI
    rw [show beginsV 1 = [1] from rfl]
    exact Rd.new w (e := 3) (size := 1) (m := 1) #[.int .i64 1] rfl 1
  by_cases h2 : k = 2
  · subst h2
    go_enter Try.func32, Try.ntmps32
    go_wp2_with fail
    go_ret
    refine ⟨_, rfl, (Fr.refl _ w).alloc _, ?_⟩
    unfold RdI
    rw [show beginsV 2 = [1, 4] from rfl]
    exact Rd.new w (e := 3) (size := 1) (m := 2) #[.int .i64 1, .int .i64 4] rfl 2
  by_cases h3 : k = 3
  · subst h3
    go_enter Try.func32, Try.ntmps32
    go_wp2_with fail
    go_ret
    refine ⟨_, rfl, (Fr.refl _ w).alloc _, ?_⟩
    unfold RdI
    rw [show beginsV 3 = [5] from rfl]
    exact Rd.new w (e := 3) (size := 1) (m := 1) #[.int .i64 5] rfl 1
  by_cases h4 : k = 4
  · subst h4
    go_enter Try.func32, Try.ntmps32
    go_wp2_with fail
    go_ret
    refine ⟨_, rfl, (Fr.refl _ w).alloc _, ?_⟩
    unfold RdI
    rw [show beginsV 4 = [5, 8] from rfl]
    exact Rd.new w (e := 3) (size := 1) (m := 2) #[.int .i64 5, .int .i64 8] rfl 2
  by_cases h5 : k = 5
  · subst h5
    go_enter Try.func32, Try.ntmps32
    go_wp2_with fail
    go_ret
    refine ⟨_, rfl, (Fr.refl _ w).alloc _, ?_⟩
    unfold RdI
    rw [show beginsV 5 = [10] from rfl]
    exact Rd.new w (e := 3) (size := 1) (m := 1) #[.int .i64 10] rfl 1
  by_cases h6 : k = 6
  · subst h6
    go_enter Try.func32, Try.ntmps32
    go_wp2_with fail
    go_ret
    refine ⟨_, rfl, (Fr.refl _ w).alloc _, ?_⟩
    unfold RdI
    rw [show beginsV 6 = [11, 14] from rfl]
    exact Rd.new w (e := 3) (size := 1) (m := 2) #[.int .i64 11, .int .i64 14] rfl 2
  by_cases h7 : k = 7
  · subst h7
    go_enter Try.func32, Try.ntmps32
    go_wp2_with fail
    go_ret
    refine ⟨_, rfl, (Fr.refl _ w).alloc _, ?_⟩
    unfold RdI
    rw [show beginsV 7 = [15, 16] from rfl]
    exact Rd.new w (e := 3) (size := 1) (m := 2) #[.int .i64 15, .int .i64 16] rfl 2
  have hv : beginsV k = [5, 1, 3] := by unfold beginsV; simp [*]
  have e1 : (k == (1 : Int)) = false := by simpa using h1
  have e2 : (k == (2 : Int)) = false := by simpa using h2
  have e3 : (k == (3 : Int)) = false := by simpa using h3
  have e4 : (k == (4 : Int)) = false := by simpa using h4
  have e5 : (k == (5 : Int)) = false := by simpa using h5
  have e6 : (k == (6 : Int)) = false := by simpa using h6
  have e7 : (k == (7 : Int)) = false := by simpa using h7
  have HV := Lib.hid hv
  clear hv h1 h2 h3 h4 h5 h6 h7
  go_enter Try.func32, Try.ntmps32
  go_wp2_with fail
  go_ret
  refine ⟨_, rfl, (Fr.refl _ w).alloc _, ?_⟩
  unfold RdI
  rw [HV.out]
  exact Rd.new w (e := 3) (size := 1) (m := 3) #[.int .i64 5, .int .i64 1, .int .i64 3] rfl 3
set_option maxRecDepth 100000 in
set_option maxHeartbeats 2000000 in
theorem ends_any (k : Int) (w : World) : Calls Try.prog 31 #[.int .i64 k] w fun e w' => ∃ v, e = .returned v ∧ Fr0 w w' ∧ RdI w' v (endsV k) := by
  by_cases h1 : k = 1
  · subst h1
    go_enter Try.func31, Try.ntmps31
    go_wp2_with fail
    go_ret
    refine ⟨_, rfl, (Fr.refl _ w).alloc _, ?_⟩
    unfold RdI
    rw [show endsV 1 = [3] from rfl]
    exact Rd.new w (e := 3) (size := 1) (m := 1) #[.int .i64 3] rfl 1
  by_cases h2 : k = 2
  · subst h2
    go_enter Try.func31, Try.ntmps31
    go_wp2_with fail
    go_ret
    refine ⟨_, rfl, (Fr.refl _ w).alloc _, ?_⟩
    unfold RdI
    rw [show endsV 2 = [3] from rfl]
    exact Rd.new w (e := 3) (size := 1) (m := 1) #[.int .i64 3] rfl 1
  by_cases h3 : k = 3
  · subst h3
    go_enter Try.func31, Try.ntmps31
    go_wp2_with fail
    go_ret
    refine ⟨_, rfl, (Fr.refl _ w).alloc _, ?_⟩
    unfold RdI
    rw [show endsV 3 = [7] from rfl]
    exact Rd.new w (e := 3) (size := 1) (m := 1) #[.int .i64 7] rfl 1
  by_cases h4 : k = 4
  · subst h4
    go_enter Try.func31, Try.ntmps31
    go_wp2_with fail
    go_ret
    refine ⟨_, rfl, (Fr.refl _ w).alloc _, ?_⟩
    unfold RdI
    rw [show endsV 4 = [9] from rfl]
    exact Rd.new w (e := 3) (size := 1) (m := 1) #[.int .i64 9] rfl 1
  by_cases h5 : k = 5
  · subst h5
    go_enter Try.func31, Try.ntmps31
    go_wp2_with fail
    go_ret
    refine ⟨_, rfl, (Fr.refl _ w).alloc _, ?_⟩
    unfold RdI
    rw [show endsV 5 = [12] from rfl]
    exact Rd.new w (e := 3) (size := 1) (m := 1) #[.int .i64 12] rfl 1
  by_cases h6 : k = 6
  · subst h6
    go_enter Try.func31, Try.ntmps31
    go_wp2_with fail
    go_ret
    refine ⟨_, rfl, (Fr.refl _ w).alloc _, ?_⟩
    unfold RdI
    rw [show endsV 6 = [13] from rfl]
    exact Rd.new w (e := 3) (size := 1) (m := 1) #[.int .i64 13] rfl 1
  by_cases h7 : k = 7
  · subst h7
    go_enter Try.func31, Try.ntmps31
    go_wp2_with fail
    go_ret
    refine ⟨_, rfl, (Fr.refl _ w).alloc _, ?_⟩
    unfold RdI
    rw [show endsV 7 = [17, 18] from rfl]
    exact Rd.new w (e := 3) (size := 1) (m := 2) #[.int .i64 17, .int .i64 18] rfl 2
  have hv : endsV k = [6] := by unfold endsV; simp [*]
  have e1 : (k == (1 : Int)) = false := by simpa using h1
  have e2 : (k == (2 : Int)) = false := by simpa using h2
  have e3 : (k == (3 : Int)) = false := by simpa using h3
  have e4 : (k == (4 : Int)) = false := by simpa using h4
  have e5 : (k == (5 : Int)) = false := by simpa using h5
  have e6 : (k == (6 : Int)) = false := by simpa using h6
  have e7 : (k == (7 : Int)) = false := by simpa using h7
  have HV := Lib.hid hv
  clear hv h1 h2 h3 h4 h5 h6 h7
  go_enter Try.func31, Try.ntmps31
  go_wp2_with fail
  go_ret
  refine ⟨_, rfl, (Fr.refl _ w).alloc _, ?_⟩
  unfold RdI
  rw [HV.out]
  exact Rd.new w (e := 3) (size := 1) (m := 1) #[.int .i64 6] rfl 1
theorem OwnI.src {w : World} {B : Nat} {v : Value} {xs : List Int} (h : OwnI w B v xs) : ∃ A c, v = .slice A xs.length c := by
  obtain ⟨_, A, c, e, _⟩ := own_src h
  exact ⟨A, c, e⟩
theorem OwnI.at_ {w : World} {B n c k : Nat} {A : Option Addr} {xs : List Int} {x : Int} (h : OwnI w B (.slice A n c) xs) (hx : xs[k]? = some x) : ∃ b, A = some ⟨b, 0, none⟩ ∧ w.cell? ⟨b, k, none⟩ = some (.int .i64 x) := by
  have hk := (List.getElem?_eq_some_iff.1 hx).1
  rcases h.2 with ⟨e, e0⟩ | ⟨g', cap', cs, e, _, hg, hle, hm, hsz, htk⟩
  · omega
  · injection e with e
    refine ⟨g', e, ?_⟩
    rw [cell_of_row w g' k cs _ _ hg]
    have h2 := congrArg (fun l => l[k]?) htk
    simp only [List.getElem?_map, hx, Option.map_some] at h2
    rw [List.getElem?_take, if_pos (by omega), Array.getElem?_toList] at h2
    exact h2
/-- The last one off. -/
theorem OwnI.pop {w : World} {B m c : Nat} {A : Option Addr} {xs : List Int} (h : OwnI w B (.slice A (m + 1) c) xs) (hm : xs.length = m + 1) : OwnI w B (.slice A m c) xs.dropLast := by
  have hl : xs.dropLast.length = m := by rw [List.length_dropLast, hm]; rfl
  unfold OwnI at h ⊢
  rw [hl]
  refine ⟨by rw [List.length_map, hl]; omega, ?_⟩
  rcases h.2 with ⟨e, e0⟩ | ⟨g', cap', cs, e, hb, hg, hle, hmx, hsz, htk⟩
  · omega
  · injection e with e e2 e3
    subst e3
    refine .inr ⟨g', c, cs, by rw [e], hb, hg, by omega, hmx, hsz, ?_⟩
    have h2 := congrArg (List.take (m * 1)) htk
    rw [List.take_take, Nat.min_eq_left (by omega)] at h2
    rw [h2, List.dropLast_eq_take, List.map_take, hm]
    simp
end Go.Proofs.Ytoldegajbonliaa
