/- Flow: the document's flow: is, last, needs. -/
import Derived.Test.YtoldegajbonliaaFr3
namespace Go.Proofs.Ytoldegajbonliaa
open Go Go.RowKit
set_option linter.unusedVariables false
attribute [local go_sem] Oper.semAt_some

/-- Do these kinds stand on top? -/
def isV (ks K : List Int) : Bool := decide (K.length ≤ ks.length ∧ ks.drop (ks.length - K.length) = K)
/-- Where the highest loop stands. -/
def LastIs (xs : List RT) (i : Int) : Prop := (i = -1 ∧ ∀ x ∈ xs, x.kind ≠ 3) ∨ ∃ pre x suf, xs = pre ++ x :: suf ∧ x.kind = 3 ∧ (∀ y ∈ suf, y.kind ≠ 3) ∧ i = pre.length
def RT.ks (xs : List RT) : List Int := xs.map RT.kind
def Needs (word : Int) (K : List Int) (more : Int) : Prop := ∀ V : World, Calls Try.prog 48 #[.int .i64 word] V fun e w' => ∃ kv, e = .returned (.tuple #[kv, .int .i64 more, .bool true]) ∧ Fr0 V w' ∧ Rd w' kv K.length 1 (K.map (Value.int .i64))
section
variable {w w' : World} {B r p q cap : Nat} {tv tv' lv : Value} {ts ts' : List Tk} {xs : List RT} {T : Nat → Prop}
set_option maxRecDepth 100000 in
set_option maxHeartbeats 4000000 in
theorem isk_r (K : List Int) (kv : Value) (w : World) (h : RF w B r p xs lv ts q cap tv) (hk : Rd w kv K.length 1 (K.map (Value.int .i64))) (hK : K.length ≤ 64) : Calls Try.prog 49 #[.pointer (some ⟨r, 0, none⟩), kv] w fun e w' => e = .returned (.bool (isV (RT.ks xs) K)) ∧ Fr0 w w' := by
  have HH := Lib.hid (fun V (hV : Fr0 w V) => h.fr0 hV)
  obtain ⟨_, _, c2⟩ := h.cells
  have hfew := h.few
  obtain ⟨A, c, rfl⟩ := h.form
  obtain ⟨_, KA, kc, rfl, _⟩ := id hk
  obtain ⟨n, hn⟩ : ∃ n, xs.length = n := ⟨_, rfl⟩
  obtain ⟨m, hm⟩ : ∃ m, K.length = m := ⟨_, rfl⟩
  rw [hn] at c2 hfew
  rw [hm] at hk hK ⊢
  have HK := Lib.hid (fun V (hV : Fr0 w V) => hk.fr0 hV)
  have HN := Lib.hid (And.intro hn hm)
  clear h hk hn hm
  by_cases hlt : n < m
  · have hv : isV (RT.ks xs) K = false := by
      unfold isV RT.ks
      rw [decide_eq_false]
      rintro ⟨h1, _⟩
      rw [List.length_map, HN.out.1, HN.out.2] at h1
      omega
    rw [hv]
    have hw : IntKind.i64.wrap ((n : Int) - (m : Int)) = (n : Int) - (m : Int) := IntWalk.i64_in _ (by omega)
    have hd : (n : Int) - (m : Int) < 0 := by omega
    clear hv
    go_enter Try.func49, Try.ntmps49
    go_wp2_with fail
    go_ret
    exact ⟨rfl, Fr.refl _ _⟩
  · obtain ⟨a, rfl⟩ : ∃ a, n = a + m := ⟨n - m, by omega⟩
    have hw : IntKind.i64.wrap (((a + m : Nat) : Int) - (m : Int)) = (a : Int) := by rw [IntWalk.i64_in _ (by omega)]; omega
    have hw2 : IntKind.i64.wrap ((a : Int) + (m : Int) - (m : Int)) = (a : Int) := by rw [IntWalk.i64_in _ (by omega)]; omega
    have hd : ¬ ((a : Int) < 0) := by omega
    have hd0 : (0 : Int) ≤ (a : Int) := by omega
    go_enter Try.func49, Try.ntmps49
    go_wp2_with fail
    go_loopw [6] (fun i wr => ∃ j : Nat, j ≤ m ∧ i = .int .i64 j ∧ Fr0 w wr ∧ (∀ t < j, (RT.ks xs)[a + t]? = K[t]?)) (fun i _ => m - (intOf i).toNat)
    case atStart => exact ⟨0, by omega, rfl, Fr.refl _ _, fun t ht => by omega⟩
    case round =>
      obtain ⟨j, hj, rfl, hf, hmt⟩ := hrel
      have HMT := Lib.hid hmt
      have HF := Lib.hid hf
      clear hmt
      by_cases hjm : j < m
      · have hjI : (j : Int) < (m : Int) := by omega
        have hj0 : (0 : Int) ≤ (j : Int) := by omega
        have hh := HH.out _ hf
        obtain ⟨x, hx⟩ : ∃ x, xs[a + j]? = some x := ⟨_, List.getElem?_eq_getElem (by rw [HN.out.1]; omega)⟩
        obtain ⟨k, hk⟩ : ∃ k, K[j]? = some k := ⟨_, List.getElem?_eq_getElem (by rw [HN.out.2]; exact hjm)⟩
        obtain ⟨g, c', e, e1, _, _, _⟩ := hh.things hx
        injection e with e e3 e4
        subst e
        obtain ⟨_, A', c'', e, hkc⟩ := HK.out _ hf
        injection e with e e5 e6
        subst e
        obtain ⟨kb, koff, eA, hkk⟩ := hkc (by omega)
        subst eA
        have e2 := hkk j (.int .i64 k) (by rw [List.getElem?_map, hk]; rfl)
        have c2r := hh.cells.2.2
        rw [HN.out.1] at c2r
        have hwj : IntKind.i64.wrap ((a : Int) + (j : Int)) = (a : Int) + (j : Int) := IntWalk.i64_in _ (by omega)
        have htn : ((a : Int) + (j : Int)).toNat = a + j := by omega
        have h0j : (0 : Int) ≤ (a : Int) + (j : Int) := by omega
        have hltI : (a : Int) + (j : Int) < (a : Int) + (m : Int) := by omega
        have HX := Lib.hid (And.intro hx hk)
        obtain ⟨xk, hxk⟩ : ∃ xk, x.kind = xk := ⟨_, rfl⟩
        have HXK := Lib.hid hxk
        rw [hxk] at e1
        clear hxk hx hk hkk hkc e3 e4 e5 e6 hh hf
        go_wp2_with fail
        go_quiet (fail)
        have HF2 := Lib.hid (HF.out.drewN nq)
        obtain ⟨W4, hW4⟩ : ∃ W4, wr.drewN nq = W4 := ⟨_, rfl⟩
        rw [hW4] at HF2 ⊢
        clear hW4
        have hck : (RT.ks xs)[a + j]? = some xk := by
          unfold RT.ks
          rw [List.getElem?_map, HX.out.1, Option.map_some, HXK.out]
        have HCK := Lib.hid hck
        clear hck
        by_cases hkx : xk = k
        · subst hkx
          go_wp2_with fail
          have hwj1 : IntKind.i64.wrap ((j : Int) + 1) = (j : Int) + 1 := IntWalk.i64_in _ (by omega)
          go_roundw
          case rel =>
            refine ⟨j + 1, by omega, ?_, HF2.out, fun t ht => ?_⟩
            · push_cast; rfl
            · rcases Nat.lt_succ_iff_lt_or_eq.1 ht with h1 | rfl
              · exact HMT.out t h1
              · rw [HCK.out, HX.out.2]
          case measure => first | omega | (simp [intOf]; omega)
        · have hbx : (xk == k) = false := by simpa using hkx
          have hv : isV (RT.ks xs) K = false := by
            unfold isV
            rw [decide_eq_false]
            rintro ⟨h1, h2⟩
            have h3 := congrArg (fun l => l[j]?) h2
            have hl : (RT.ks xs).length - K.length = a := by unfold RT.ks; rw [List.length_map, HN.out.1, HN.out.2]; omega
            rw [List.getElem?_drop, hl, HCK.out, HX.out.2] at h3
            exact hkx (Option.some.inj h3)
          have HV := Lib.hid hv
          clear hv
          go_wp2_with fail
          go_ret
          rw [HV.out]
          exact ⟨rfl, HF2.out⟩
      · obtain rfl : j = m := by omega
        have hv : isV (RT.ks xs) K = true := by
          unfold isV
          have hlk : (RT.ks xs).length = a + j := by unfold RT.ks; rw [List.length_map, HN.out.1]
          rw [decide_eq_true]
          refine ⟨by rw [hlk, HN.out.2]; omega, ?_⟩
          apply List.ext_getElem?
          intro t
          rw [List.getElem?_drop, hlk, HN.out.2, Nat.add_sub_cancel]
          rcases Nat.lt_or_ge t j with h1 | h1
          · exact HMT.out t h1
          · rw [List.getElem?_eq_none (by rw [hlk]; omega), List.getElem?_eq_none (by rw [HN.out.2]; exact h1)]
        have HV := Lib.hid hv
        clear hv
        go_wp2_with fail
        go_ret
        rw [HV.out]
        exact ⟨rfl, HF.out⟩
set_option maxRecDepth 100000 in
set_option maxHeartbeats 4000000 in
theorem last_r (w : World) (h : RF w B r p xs lv ts q cap tv) : Calls Try.prog 50 #[.pointer (some ⟨r, 0, none⟩)] w fun e w' => ∃ i, e = .returned (.int .i64 i) ∧ LastIs xs i ∧ w = w' := by
  have HH := Lib.hid h
  obtain ⟨_, _, c2⟩ := h.cells
  have hfew := h.few
  obtain ⟨A, c, rfl⟩ := h.form
  obtain ⟨n, hn⟩ : ∃ n, xs.length = n := ⟨_, rfl⟩
  rw [hn] at c2 hfew
  have HN := Lib.hid hn
  clear h hn
  have hw : IntKind.i64.wrap ((n : Int) - 1) = (n : Int) - 1 := IntWalk.i64_in _ (by omega)
  go_enter Try.func50, Try.ntmps50
  go_wp2_with fail
  go_loopw [3] (fun i wr => ∃ k : Nat, k ≤ n ∧ i = .int .i64 ((k : Int) - 1) ∧ w = wr ∧ ∀ y ∈ xs.drop k, y.kind ≠ 3) (fun i _ => (intOf i + 1).toNat)
  case atStart => exact ⟨n, Nat.le_refl _, rfl, rfl, fun y hy => by rw [List.drop_eq_nil_of_le (by rw [HN.out]; exact Nat.le_refl _)] at hy; cases hy⟩
  case round =>
    obtain ⟨k, hk, rfl, rfl, hno⟩ := hrel
    have HNO := Lib.hid hno
    clear hno
    rcases Nat.eq_zero_or_pos k with rfl | hpos
    · have hd : ¬ ((0 : Int) ≤ ((0 : Nat) : Int) - 1) := by omega
      go_wp2_with fail
      go_ret
      exact ⟨_, rfl, .inl ⟨rfl, fun x hx => HNO.out x (by rw [List.drop_zero]; exact hx)⟩, rfl⟩
    · obtain ⟨j, rfl⟩ : ∃ j, k = j + 1 := ⟨k - 1, by omega⟩
      rw [show (((j + 1 : Nat) : Int) - 1) = (j : Int) by omega]
      have hj0 : (0 : Int) ≤ (j : Int) := by omega
      have hjn : (j : Int) < (n : Int) := by omega
      obtain ⟨x, hx⟩ : ∃ x, xs[j]? = some x := ⟨_, List.getElem?_eq_getElem (by rw [HN.out]; omega)⟩
      obtain ⟨g, c', e, e1, _, _, _⟩ := HH.out.things hx
      injection e with e e3 e4
      subst e
      obtain ⟨xk, hxk⟩ : ∃ xk, x.kind = xk := ⟨_, rfl⟩
      have HXK := Lib.hid hxk
      rw [hxk] at e1
      have HX := Lib.hid hx
      clear hxk hx e3 e4
      have hsp : xs = xs.take j ++ x :: xs.drop (j + 1) := by
        have h1 := (List.getElem?_eq_some_iff.1 HX.out).2
        have h2 := (List.getElem?_eq_some_iff.1 HX.out).1
        rw [← h1, ← List.drop_eq_getElem_cons h2, List.take_append_drop]
      have HSP := Lib.hid hsp
      clear hsp
      have hwj : IntKind.i64.wrap ((j : Int) - 1) = (j : Int) - 1 := IntWalk.i64_in _ (by omega)
      by_cases h3 : xk = 3
      · subst h3
        go_wp2_with fail
        go_ret
        exact ⟨_, rfl, .inr ⟨_, x, _, HSP.out, HXK.out, HNO.out, by rw [List.length_take, HN.out]; omega⟩, rfl⟩
      · have hb : (xk == (3 : Int)) = false := by simpa using h3
        go_wp2_with fail
        go_roundw
        case rel =>
          refine ⟨j, by omega, by first | rfl | (simp only [hwj]), trivial, fun y hy => ?_⟩
          have h1 := (List.getElem?_eq_some_iff.1 HX.out).2
          have h2 := (List.getElem?_eq_some_iff.1 HX.out).1
          rw [List.drop_eq_getElem_cons h2, h1] at hy
          rcases List.mem_cons.1 hy with rfl | hy
          · rw [HXK.out]
            exact h3
          · exact HNO.out y hy
        case measure => simp [intOf]
end
set_option maxRecDepth 100000 in
set_option maxHeartbeats 2000000 in
theorem needs_1 : Needs 1 [] 1 := fun w => by
  go_enter Try.func48, Try.ntmps48
  go_wp2_with fail
  exact bodyPost_ret (v := .tuple #[.slice none 0 0, .int .i64 1, .bool true]) (by simp [results, Try.results48, go_sem]) rfl ⟨_, rfl, Fr.refl _ w, Rd.nil _ _ _ _⟩
set_option maxRecDepth 100000 in
set_option maxHeartbeats 2000000 in
theorem needs_2 : Needs 2 [] 1 := fun w => by
  go_enter Try.func48, Try.ntmps48
  go_wp2_with fail
  exact bodyPost_ret (v := .tuple #[.slice none 0 0, .int .i64 1, .bool true]) (by simp [results, Try.results48, go_sem]) rfl ⟨_, rfl, Fr.refl _ w, Rd.nil _ _ _ _⟩
set_option maxRecDepth 100000 in
set_option maxHeartbeats 2000000 in
theorem needs_3 : Needs 3 [1] 0 := fun w => by
  go_enter Try.func48, Try.ntmps48
  go_wp2_with fail
  exact bodyPost_ret (v := .tuple #[.slice (some ⟨w.heap.size, 0, none⟩) 1 1, .int .i64 0, .bool true]) (by simp [results, Try.results48, go_sem]) rfl ⟨_, rfl, (Fr.refl _ w).alloc _, Rd.new w (e := 3) #[.int .i64 1] (size := 1) (m := 1) rfl 1⟩
set_option maxRecDepth 100000 in
set_option maxHeartbeats 2000000 in
theorem needs_4 : Needs 4 [1] 0 := fun w => by
  go_enter Try.func48, Try.ntmps48
  go_wp2_with fail
  exact bodyPost_ret (v := .tuple #[.slice (some ⟨w.heap.size, 0, none⟩) 1 1, .int .i64 0, .bool true]) (by simp [results, Try.results48, go_sem]) rfl ⟨_, rfl, (Fr.refl _ w).alloc _, Rd.new w (e := 3) #[.int .i64 1] (size := 1) (m := 1) rfl 1⟩
set_option maxRecDepth 100000 in
set_option maxHeartbeats 2000000 in
theorem needs_5 : Needs 5 [] 1 := fun w => by
  go_enter Try.func48, Try.ntmps48
  go_wp2_with fail
  exact bodyPost_ret (v := .tuple #[.slice none 0 0, .int .i64 1, .bool true]) (by simp [results, Try.results48, go_sem]) rfl ⟨_, rfl, Fr.refl _ w, Rd.nil _ _ _ _⟩
set_option maxRecDepth 100000 in
set_option maxHeartbeats 2000000 in
theorem needs_6 : Needs 6 [2] 0 := fun w => by
  go_enter Try.func48, Try.ntmps48
  go_wp2_with fail
  exact bodyPost_ret (v := .tuple #[.slice (some ⟨w.heap.size, 0, none⟩) 1 1, .int .i64 0, .bool true]) (by simp [results, Try.results48, go_sem]) rfl ⟨_, rfl, (Fr.refl _ w).alloc _, Rd.new w (e := 3) #[.int .i64 2] (size := 1) (m := 1) rfl 1⟩
set_option maxRecDepth 100000 in
set_option maxHeartbeats 2000000 in
theorem needs_7 : Needs 7 [2] 0 := fun w => by
  go_enter Try.func48, Try.ntmps48
  go_wp2_with fail
  exact bodyPost_ret (v := .tuple #[.slice (some ⟨w.heap.size, 0, none⟩) 1 1, .int .i64 0, .bool true]) (by simp [results, Try.results48, go_sem]) rfl ⟨_, rfl, (Fr.refl _ w).alloc _, Rd.new w (e := 3) #[.int .i64 2] (size := 1) (m := 1) rfl 1⟩
set_option maxRecDepth 100000 in
set_option maxHeartbeats 2000000 in
theorem needs_8 : Needs 8 [2] 1 := fun w => by
  go_enter Try.func48, Try.ntmps48
  go_wp2_with fail
  exact bodyPost_ret (v := .tuple #[.slice (some ⟨w.heap.size, 0, none⟩) 1 1, .int .i64 1, .bool true]) (by simp [results, Try.results48, go_sem]) rfl ⟨_, rfl, (Fr.refl _ w).alloc _, Rd.new w (e := 3) #[.int .i64 2] (size := 1) (m := 1) rfl 1⟩
set_option maxRecDepth 100000 in
set_option maxHeartbeats 2000000 in
theorem needs_9 : Needs 9 [1, 2] 0 := fun w => by
  go_enter Try.func48, Try.ntmps48
  go_wp2_with fail
  exact bodyPost_ret (v := .tuple #[.slice (some ⟨w.heap.size, 0, none⟩) 2 2, .int .i64 0, .bool true]) (by simp [results, Try.results48, go_sem]) rfl ⟨_, rfl, (Fr.refl _ w).alloc _, Rd.new w (e := 3) #[.int .i64 1, .int .i64 2] (size := 1) (m := 2) rfl 2⟩
set_option maxRecDepth 100000 in
set_option maxHeartbeats 2000000 in
theorem needs_10 : Needs 10 [] 1 := fun w => by
  go_enter Try.func48, Try.ntmps48
  go_wp2_with fail
  exact bodyPost_ret (v := .tuple #[.slice none 0 0, .int .i64 1, .bool true]) (by simp [results, Try.results48, go_sem]) rfl ⟨_, rfl, Fr.refl _ w, Rd.nil _ _ _ _⟩
set_option maxRecDepth 100000 in
set_option maxHeartbeats 2000000 in
theorem needs_11 : Needs 11 [] 1 := fun w => by
  go_enter Try.func48, Try.ntmps48
  go_wp2_with fail
  exact bodyPost_ret (v := .tuple #[.slice none 0 0, .int .i64 1, .bool true]) (by simp [results, Try.results48, go_sem]) rfl ⟨_, rfl, Fr.refl _ w, Rd.nil _ _ _ _⟩
set_option maxRecDepth 100000 in
set_option maxHeartbeats 2000000 in
theorem needs_12 : Needs 12 [3] 0 := fun w => by
  go_enter Try.func48, Try.ntmps48
  go_wp2_with fail
  exact bodyPost_ret (v := .tuple #[.slice (some ⟨w.heap.size, 0, none⟩) 1 1, .int .i64 0, .bool true]) (by simp [results, Try.results48, go_sem]) rfl ⟨_, rfl, (Fr.refl _ w).alloc _, Rd.new w (e := 3) #[.int .i64 3] (size := 1) (m := 1) rfl 1⟩
set_option maxRecDepth 100000 in
set_option maxHeartbeats 2000000 in
theorem needs_13 : Needs 13 [3] 0 := fun w => by
  go_enter Try.func48, Try.ntmps48
  go_wp2_with fail
  exact bodyPost_ret (v := .tuple #[.slice (some ⟨w.heap.size, 0, none⟩) 1 1, .int .i64 0, .bool true]) (by simp [results, Try.results48, go_sem]) rfl ⟨_, rfl, (Fr.refl _ w).alloc _, Rd.new w (e := 3) #[.int .i64 3] (size := 1) (m := 1) rfl 1⟩
set_option maxRecDepth 100000 in
set_option maxHeartbeats 2000000 in
theorem needs_14 : Needs 14 [] 0 := fun w => by
  go_enter Try.func48, Try.ntmps48
  go_wp2_with fail
  exact bodyPost_ret (v := .tuple #[.slice none 0 0, .int .i64 0, .bool true]) (by simp [results, Try.results48, go_sem]) rfl ⟨_, rfl, Fr.refl _ w, Rd.nil _ _ _ _⟩
set_option maxRecDepth 100000 in
set_option maxHeartbeats 2000000 in
theorem needs_15 : Needs 15 [] 1 := fun w => by
  go_enter Try.func48, Try.ntmps48
  go_wp2_with fail
  exact bodyPost_ret (v := .tuple #[.slice none 0 0, .int .i64 1, .bool true]) (by simp [results, Try.results48, go_sem]) rfl ⟨_, rfl, Fr.refl _ w, Rd.nil _ _ _ _⟩
set_option maxRecDepth 100000 in
set_option maxHeartbeats 2000000 in
theorem needs_16 : Needs 16 [4] 1 := fun w => by
  go_enter Try.func48, Try.ntmps48
  go_wp2_with fail
  exact bodyPost_ret (v := .tuple #[.slice (some ⟨w.heap.size, 0, none⟩) 1 1, .int .i64 1, .bool true]) (by simp [results, Try.results48, go_sem]) rfl ⟨_, rfl, (Fr.refl _ w).alloc _, Rd.new w (e := 3) #[.int .i64 4] (size := 1) (m := 1) rfl 1⟩
set_option maxRecDepth 100000 in
set_option maxHeartbeats 2000000 in
theorem needs_17 : Needs 17 [4, 5] 0 := fun w => by
  go_enter Try.func48, Try.ntmps48
  go_wp2_with fail
  exact bodyPost_ret (v := .tuple #[.slice (some ⟨w.heap.size, 0, none⟩) 2 2, .int .i64 0, .bool true]) (by simp [results, Try.results48, go_sem]) rfl ⟨_, rfl, (Fr.refl _ w).alloc _, Rd.new w (e := 3) #[.int .i64 4, .int .i64 5] (size := 1) (m := 2) rfl 2⟩
set_option maxRecDepth 100000 in
set_option maxHeartbeats 2000000 in
theorem needs_18 : Needs 18 [4] 0 := fun w => by
  go_enter Try.func48, Try.ntmps48
  go_wp2_with fail
  exact bodyPost_ret (v := .tuple #[.slice (some ⟨w.heap.size, 0, none⟩) 1 1, .int .i64 0, .bool true]) (by simp [results, Try.results48, go_sem]) rfl ⟨_, rfl, (Fr.refl _ w).alloc _, Rd.new w (e := 3) #[.int .i64 4] (size := 1) (m := 1) rfl 1⟩
set_option maxRecDepth 100000 in
set_option maxHeartbeats 4000000 in
theorem needs_not (n : Int) (hn : ∀ k : Int, 1 ≤ k → k ≤ 18 → (n == k) = false) (w : World) : Calls Try.prog 48 #[.int .i64 n] w fun e w' => e = .returned (.tuple #[.slice none 0 0, .int .i64 0, .bool false]) ∧ w = w' := by
  have e1 := hn 1 (by decide) (by decide)
  have e2 := hn 2 (by decide) (by decide)
  have e3 := hn 3 (by decide) (by decide)
  have e4 := hn 4 (by decide) (by decide)
  have e5 := hn 5 (by decide) (by decide)
  have e6 := hn 6 (by decide) (by decide)
  have e7 := hn 7 (by decide) (by decide)
  have e8 := hn 8 (by decide) (by decide)
  have e9 := hn 9 (by decide) (by decide)
  have e10 := hn 10 (by decide) (by decide)
  have e11 := hn 11 (by decide) (by decide)
  have e12 := hn 12 (by decide) (by decide)
  have e13 := hn 13 (by decide) (by decide)
  have e14 := hn 14 (by decide) (by decide)
  have e15 := hn 15 (by decide) (by decide)
  have e16 := hn 16 (by decide) (by decide)
  have e17 := hn 17 (by decide) (by decide)
  have e18 := hn 18 (by decide) (by decide)
  clear hn
  go_enter Try.func48, Try.ntmps48
  go_wp2_with fail
  exact bodyPost_ret (v := .tuple #[.slice none 0 0, .int .i64 0, .bool false]) (by simp [results, Try.results48, go_sem]) rfl ⟨rfl, rfl⟩
end Go.Proofs.Ytoldegajbonliaa
