/- Flow: the words' rows. -/
import Derived.Test.YtoldegajbonliaaFdo
import Derived.Laws.EntriesVeiled
namespace Go.Proofs.Ytoldegajbonliaa
open Go Go.RowKit
set_option linter.unusedVariables false
attribute [local go_sem] Oper.semAt_some

set_option maxRecDepth 100000 in
set_option maxHeartbeats 2000000 in
theorem find_1 : Finds 1 53 [] 1 := fun w => by
  go_enter Try.func33, Try.ntmps33
  go_wp2_with fail
  exact bodyPost_ret (v := .tuple #[.agg #[.slice none 0 0, .int .i64 1, .func (.func 53) #[] #[]], .bool true]) (by simp [results, Try.results33, go_sem]) rfl ⟨_, rfl, (Fr.refl _ w).alloc _, Rd.nil _ _ _ _⟩
set_option maxRecDepth 100000 in
set_option maxHeartbeats 2000000 in
theorem find_2 : Finds 2 54 [] 1 := fun w => by
  go_enter Try.func33, Try.ntmps33
  go_wp2_with fail
  exact bodyPost_ret (v := .tuple #[.agg #[.slice none 0 0, .int .i64 1, .func (.func 54) #[] #[]], .bool true]) (by simp [results, Try.results33, go_sem]) rfl ⟨_, rfl, (Fr.refl _ w).alloc _, Rd.nil _ _ _ _⟩
set_option maxRecDepth 100000 in
set_option maxHeartbeats 2000000 in
theorem find_3 : Finds 3 55 [1] 0 := fun w => by
  go_enter Try.func33, Try.ntmps33
  go_wp2_with fail
  have hr := Rd.new (w.alloc (.cells #[.slice (some ⟨w.heap.size + 1, 0, none⟩) 1 1, .int .i64 0, .func (.func 55) #[] #[]] 71)) (e := 3) #[.int .i64 1] (size := 1) (m := 1) rfl 1
  rw [show (w.alloc (.cells #[.slice (some ⟨w.heap.size + 1, 0, none⟩) 1 1, .int .i64 0, .func (.func 55) #[] #[]] 71)).heap.size = w.heap.size + 1 by simp] at hr
  exact bodyPost_ret (v := .tuple #[.agg #[.slice (some ⟨w.heap.size + 1, 0, none⟩) 1 1, .int .i64 0, .func (.func 55) #[] #[]], .bool true]) (by simp [results, Try.results33, go_sem]) rfl ⟨_, rfl, ((Fr.refl _ w).alloc _).alloc _, hr⟩
set_option maxRecDepth 100000 in
set_option maxHeartbeats 2000000 in
theorem find_4 : Finds 4 56 [1] 0 := fun w => by
  go_enter Try.func33, Try.ntmps33
  go_wp2_with fail
  have hr := Rd.new (w.alloc (.cells #[.slice (some ⟨w.heap.size + 1, 0, none⟩) 1 1, .int .i64 0, .func (.func 56) #[] #[]] 71)) (e := 3) #[.int .i64 1] (size := 1) (m := 1) rfl 1
  rw [show (w.alloc (.cells #[.slice (some ⟨w.heap.size + 1, 0, none⟩) 1 1, .int .i64 0, .func (.func 56) #[] #[]] 71)).heap.size = w.heap.size + 1 by simp] at hr
  exact bodyPost_ret (v := .tuple #[.agg #[.slice (some ⟨w.heap.size + 1, 0, none⟩) 1 1, .int .i64 0, .func (.func 56) #[] #[]], .bool true]) (by simp [results, Try.results33, go_sem]) rfl ⟨_, rfl, ((Fr.refl _ w).alloc _).alloc _, hr⟩
set_option maxRecDepth 100000 in
set_option maxHeartbeats 2000000 in
theorem find_5 : Finds 5 57 [] 1 := fun w => by
  go_enter Try.func33, Try.ntmps33
  go_wp2_with fail
  exact bodyPost_ret (v := .tuple #[.agg #[.slice none 0 0, .int .i64 1, .func (.func 57) #[] #[]], .bool true]) (by simp [results, Try.results33, go_sem]) rfl ⟨_, rfl, (Fr.refl _ w).alloc _, Rd.nil _ _ _ _⟩
set_option maxRecDepth 100000 in
set_option maxHeartbeats 2000000 in
theorem find_6 : Finds 6 58 [2] 0 := fun w => by
  go_enter Try.func33, Try.ntmps33
  go_wp2_with fail
  have hr := Rd.new (w.alloc (.cells #[.slice (some ⟨w.heap.size + 1, 0, none⟩) 1 1, .int .i64 0, .func (.func 58) #[] #[]] 71)) (e := 3) #[.int .i64 2] (size := 1) (m := 1) rfl 1
  rw [show (w.alloc (.cells #[.slice (some ⟨w.heap.size + 1, 0, none⟩) 1 1, .int .i64 0, .func (.func 58) #[] #[]] 71)).heap.size = w.heap.size + 1 by simp] at hr
  exact bodyPost_ret (v := .tuple #[.agg #[.slice (some ⟨w.heap.size + 1, 0, none⟩) 1 1, .int .i64 0, .func (.func 58) #[] #[]], .bool true]) (by simp [results, Try.results33, go_sem]) rfl ⟨_, rfl, ((Fr.refl _ w).alloc _).alloc _, hr⟩
set_option maxRecDepth 100000 in
set_option maxHeartbeats 2000000 in
theorem find_7 : Finds 7 59 [2] 0 := fun w => by
  go_enter Try.func33, Try.ntmps33
  go_wp2_with fail
  have hr := Rd.new (w.alloc (.cells #[.slice (some ⟨w.heap.size + 1, 0, none⟩) 1 1, .int .i64 0, .func (.func 59) #[] #[]] 71)) (e := 3) #[.int .i64 2] (size := 1) (m := 1) rfl 1
  rw [show (w.alloc (.cells #[.slice (some ⟨w.heap.size + 1, 0, none⟩) 1 1, .int .i64 0, .func (.func 59) #[] #[]] 71)).heap.size = w.heap.size + 1 by simp] at hr
  exact bodyPost_ret (v := .tuple #[.agg #[.slice (some ⟨w.heap.size + 1, 0, none⟩) 1 1, .int .i64 0, .func (.func 59) #[] #[]], .bool true]) (by simp [results, Try.results33, go_sem]) rfl ⟨_, rfl, ((Fr.refl _ w).alloc _).alloc _, hr⟩
set_option maxRecDepth 100000 in
set_option maxHeartbeats 2000000 in
theorem find_8 : Finds 8 60 [2] 1 := fun w => by
  go_enter Try.func33, Try.ntmps33
  go_wp2_with fail
  have hr := Rd.new (w.alloc (.cells #[.slice (some ⟨w.heap.size + 1, 0, none⟩) 1 1, .int .i64 1, .func (.func 60) #[] #[]] 71)) (e := 3) #[.int .i64 2] (size := 1) (m := 1) rfl 1
  rw [show (w.alloc (.cells #[.slice (some ⟨w.heap.size + 1, 0, none⟩) 1 1, .int .i64 1, .func (.func 60) #[] #[]] 71)).heap.size = w.heap.size + 1 by simp] at hr
  exact bodyPost_ret (v := .tuple #[.agg #[.slice (some ⟨w.heap.size + 1, 0, none⟩) 1 1, .int .i64 1, .func (.func 60) #[] #[]], .bool true]) (by simp [results, Try.results33, go_sem]) rfl ⟨_, rfl, ((Fr.refl _ w).alloc _).alloc _, hr⟩
set_option maxRecDepth 100000 in
set_option maxHeartbeats 2000000 in
theorem find_9 : Finds 9 61 [1, 2] 0 := fun w => by
  go_enter Try.func33, Try.ntmps33
  go_wp2_with fail
  have hr := Rd.new (w.alloc (.cells #[.slice (some ⟨w.heap.size + 1, 0, none⟩) 2 2, .int .i64 0, .func (.func 61) #[] #[]] 71)) (e := 3) #[.int .i64 1, .int .i64 2] (size := 1) (m := 2) rfl 2
  rw [show (w.alloc (.cells #[.slice (some ⟨w.heap.size + 1, 0, none⟩) 2 2, .int .i64 0, .func (.func 61) #[] #[]] 71)).heap.size = w.heap.size + 1 by simp] at hr
  exact bodyPost_ret (v := .tuple #[.agg #[.slice (some ⟨w.heap.size + 1, 0, none⟩) 2 2, .int .i64 0, .func (.func 61) #[] #[]], .bool true]) (by simp [results, Try.results33, go_sem]) rfl ⟨_, rfl, ((Fr.refl _ w).alloc _).alloc _, hr⟩
set_option maxRecDepth 100000 in
set_option maxHeartbeats 2000000 in
theorem find_10 : Finds 10 62 [] 1 := fun w => by
  go_enter Try.func33, Try.ntmps33
  go_wp2_with fail
  exact bodyPost_ret (v := .tuple #[.agg #[.slice none 0 0, .int .i64 1, .func (.func 62) #[] #[]], .bool true]) (by simp [results, Try.results33, go_sem]) rfl ⟨_, rfl, (Fr.refl _ w).alloc _, Rd.nil _ _ _ _⟩
set_option maxRecDepth 100000 in
set_option maxHeartbeats 2000000 in
theorem find_11 : Finds 11 63 [] 1 := fun w => by
  go_enter Try.func33, Try.ntmps33
  go_wp2_with fail
  exact bodyPost_ret (v := .tuple #[.agg #[.slice none 0 0, .int .i64 1, .func (.func 63) #[] #[]], .bool true]) (by simp [results, Try.results33, go_sem]) rfl ⟨_, rfl, (Fr.refl _ w).alloc _, Rd.nil _ _ _ _⟩
set_option maxRecDepth 100000 in
set_option maxHeartbeats 2000000 in
theorem find_12 : Finds 12 64 [3] 0 := fun w => by
  go_enter Try.func33, Try.ntmps33
  go_wp2_with fail
  have hr := Rd.new (w.alloc (.cells #[.slice (some ⟨w.heap.size + 1, 0, none⟩) 1 1, .int .i64 0, .func (.func 64) #[] #[]] 71)) (e := 3) #[.int .i64 3] (size := 1) (m := 1) rfl 1
  rw [show (w.alloc (.cells #[.slice (some ⟨w.heap.size + 1, 0, none⟩) 1 1, .int .i64 0, .func (.func 64) #[] #[]] 71)).heap.size = w.heap.size + 1 by simp] at hr
  exact bodyPost_ret (v := .tuple #[.agg #[.slice (some ⟨w.heap.size + 1, 0, none⟩) 1 1, .int .i64 0, .func (.func 64) #[] #[]], .bool true]) (by simp [results, Try.results33, go_sem]) rfl ⟨_, rfl, ((Fr.refl _ w).alloc _).alloc _, hr⟩
set_option maxRecDepth 100000 in
set_option maxHeartbeats 2000000 in
theorem find_13 : Finds 13 65 [3] 0 := fun w => by
  go_enter Try.func33, Try.ntmps33
  go_wp2_with fail
  have hr := Rd.new (w.alloc (.cells #[.slice (some ⟨w.heap.size + 1, 0, none⟩) 1 1, .int .i64 0, .func (.func 65) #[] #[]] 71)) (e := 3) #[.int .i64 3] (size := 1) (m := 1) rfl 1
  rw [show (w.alloc (.cells #[.slice (some ⟨w.heap.size + 1, 0, none⟩) 1 1, .int .i64 0, .func (.func 65) #[] #[]] 71)).heap.size = w.heap.size + 1 by simp] at hr
  exact bodyPost_ret (v := .tuple #[.agg #[.slice (some ⟨w.heap.size + 1, 0, none⟩) 1 1, .int .i64 0, .func (.func 65) #[] #[]], .bool true]) (by simp [results, Try.results33, go_sem]) rfl ⟨_, rfl, ((Fr.refl _ w).alloc _).alloc _, hr⟩
set_option maxRecDepth 100000 in
set_option maxHeartbeats 2000000 in
theorem find_14 : Finds 14 66 [] 0 := fun w => by
  go_enter Try.func33, Try.ntmps33
  go_wp2_with fail
  exact bodyPost_ret (v := .tuple #[.agg #[.slice none 0 0, .int .i64 0, .func (.func 66) #[] #[]], .bool true]) (by simp [results, Try.results33, go_sem]) rfl ⟨_, rfl, (Fr.refl _ w).alloc _, Rd.nil _ _ _ _⟩
set_option maxRecDepth 100000 in
set_option maxHeartbeats 2000000 in
theorem find_15 : Finds 15 67 [] 1 := fun w => by
  go_enter Try.func33, Try.ntmps33
  go_wp2_with fail
  exact bodyPost_ret (v := .tuple #[.agg #[.slice none 0 0, .int .i64 1, .func (.func 67) #[] #[]], .bool true]) (by simp [results, Try.results33, go_sem]) rfl ⟨_, rfl, (Fr.refl _ w).alloc _, Rd.nil _ _ _ _⟩
set_option maxRecDepth 100000 in
set_option maxHeartbeats 2000000 in
theorem find_16 : Finds 16 68 [4] 1 := fun w => by
  go_enter Try.func33, Try.ntmps33
  go_wp2_with fail
  have hr := Rd.new (w.alloc (.cells #[.slice (some ⟨w.heap.size + 1, 0, none⟩) 1 1, .int .i64 1, .func (.func 68) #[] #[]] 71)) (e := 3) #[.int .i64 4] (size := 1) (m := 1) rfl 1
  rw [show (w.alloc (.cells #[.slice (some ⟨w.heap.size + 1, 0, none⟩) 1 1, .int .i64 1, .func (.func 68) #[] #[]] 71)).heap.size = w.heap.size + 1 by simp] at hr
  exact bodyPost_ret (v := .tuple #[.agg #[.slice (some ⟨w.heap.size + 1, 0, none⟩) 1 1, .int .i64 1, .func (.func 68) #[] #[]], .bool true]) (by simp [results, Try.results33, go_sem]) rfl ⟨_, rfl, ((Fr.refl _ w).alloc _).alloc _, hr⟩
set_option maxRecDepth 100000 in
set_option maxHeartbeats 2000000 in
theorem find_17 : Finds 17 69 [4, 5] 0 := fun w => by
  go_enter Try.func33, Try.ntmps33
  go_wp2_with fail
  have hr := Rd.new (w.alloc (.cells #[.slice (some ⟨w.heap.size + 1, 0, none⟩) 2 2, .int .i64 0, .func (.func 69) #[] #[]] 71)) (e := 3) #[.int .i64 4, .int .i64 5] (size := 1) (m := 2) rfl 2
  rw [show (w.alloc (.cells #[.slice (some ⟨w.heap.size + 1, 0, none⟩) 2 2, .int .i64 0, .func (.func 69) #[] #[]] 71)).heap.size = w.heap.size + 1 by simp] at hr
  exact bodyPost_ret (v := .tuple #[.agg #[.slice (some ⟨w.heap.size + 1, 0, none⟩) 2 2, .int .i64 0, .func (.func 69) #[] #[]], .bool true]) (by simp [results, Try.results33, go_sem]) rfl ⟨_, rfl, ((Fr.refl _ w).alloc _).alloc _, hr⟩
set_option maxRecDepth 100000 in
set_option maxHeartbeats 2000000 in
theorem find_18 : Finds 18 70 [4] 0 := fun w => by
  go_enter Try.func33, Try.ntmps33
  go_wp2_with fail
  have hr := Rd.new (w.alloc (.cells #[.slice (some ⟨w.heap.size + 1, 0, none⟩) 1 1, .int .i64 0, .func (.func 70) #[] #[]] 71)) (e := 3) #[.int .i64 4] (size := 1) (m := 1) rfl 1
  rw [show (w.alloc (.cells #[.slice (some ⟨w.heap.size + 1, 0, none⟩) 1 1, .int .i64 0, .func (.func 70) #[] #[]] 71)).heap.size = w.heap.size + 1 by simp] at hr
  exact bodyPost_ret (v := .tuple #[.agg #[.slice (some ⟨w.heap.size + 1, 0, none⟩) 1 1, .int .i64 0, .func (.func 70) #[] #[]], .bool true]) (by simp [results, Try.results33, go_sem]) rfl ⟨_, rfl, ((Fr.refl _ w).alloc _).alloc _, hr⟩
end Go.Proofs.Ytoldegajbonliaa
