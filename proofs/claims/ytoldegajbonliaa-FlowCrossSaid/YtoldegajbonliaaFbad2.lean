/- Flow: Do that is refused: other kinds, no room. -/
import Derived.Test.YtoldegajbonliaaFdo
import Derived.BigQuiet
import Derived.ArgAppend
namespace Go.Proofs.Ytoldegajbonliaa
open Go Go.RowKit
set_option linter.unusedVariables false
attribute [local go_sem] Oper.semAt_some

section
variable {w w' : World} {B f p g scap q cap : Nat} {tv tv' lv : Value} {ts ts' : List Tk} {st l : List Th} {T : Nat → Prop}
set_option maxRecDepth 100000 in
set_option maxHeartbeats 8000000 in
theorem do_kind (word : Int) (fn : FuncId) (K : List Int) (more : Int) (pre l : List Th) (w : World) (h : Fl w B f p (pre ++ l) g scap ts q cap tv) (hKl : K.length = l.length) (hF : Finds word fn K more) (hne : l.map Th.kind ≠ K) :
    Calls Try.prog 12 #[.pointer (some ⟨f, 0, none⟩), .int .i64 word] w fun e w' => e = .returned (.int .i64 (-22)) ∧ Fr0 w w' := by
  have HH := Lib.hid (fun V (hV : Fr0 w V) => h.fr0 hV)
  have HIN := Lib.hid (show ∀ k, FlIn f p q tv g (pre ++ l) k → k < w.heap.size from fun k hk => (h.in_lo hk).2)
  have hscap : (pre ++ l).length ≤ scap := by
    obtain ⟨cs, _, h1, _⟩ := h.sk
    exact h1
  have HF := Lib.hid hF
  obtain ⟨a, ha⟩ : ∃ a, pre.length = a := ⟨_, rfl⟩
  obtain ⟨m, hm'⟩ : ∃ m, l.length = m := ⟨_, rfl⟩
  obtain ⟨n, hn⟩ : ∃ n, (pre ++ l).length = n := ⟨_, rfl⟩
  have hnam : n = a + m := by rw [← hn, List.length_append, ha, hm']
  have hKm : K.length = m := by rw [hKl, hm']
  have hdeep := h.deep
  rw [hn] at hdeep hscap
  subst hnam
  have HNN := Lib.hid hn
  have HA := Lib.hid (And.intro ha hm')
  have HKL := Lib.hid hKl
  clear h hF hn hKl
  go_enter Try.func12, Try.ntmps12
  go_wp2_with (go_at_call 33; refine (HF.out _).mono ?_; rintro e w1 ⟨kv, rfl, hf1, hk1⟩; obtain ⟨_, KA, kc, rfl, hkc⟩ := id hk1; rw [hKm] at hk1; rw [hKm]; have HK1 := Lib.hid hk1; have HF1 := Lib.hid hf1; clear hk1 hf1 hkc)
  have hfb := HF1.out.alloc (.cells #[.slice KA m kc, .int .i64 more, .func (.func fn) #[] #[]] 71)
  have hbx := Blk.new w1 71 #[.slice KA m kc, .int .i64 more, .func (.func fn) #[] #[]]
  obtain ⟨W2, hW2⟩ : ∃ W2, w1.alloc (.cells #[.slice KA m kc, .int .i64 more, .func (.func fn) #[] #[]] 71) = W2 := ⟨_, rfl⟩
  obtain ⟨bx, hbx'⟩ : ∃ bx, w1.heap.size = bx := ⟨_, rfl⟩
  have hk2 := HK1.out.fr0 ((Fr.refl (fun _ => False) w1).alloc (.cells #[.slice KA m kc, .int .i64 more, .func (.func fn) #[] #[]] 71))
  have hbl := HF1.out.size
  rw [hW2] at hfb hbx hk2 ⊢
  rw [hbx'] at hbx hbl ⊢
  have HFB := Lib.hid hfb
  have HBX := Lib.hid hbx
  have HK2 := Lib.hid hk2
  have HBL := Lib.hid hbl
  clear hfb hbx hk2 hW2 hbx' hbl
  go_wp2_with fail
  have hz : Fr0 w W2.drew := HFB.out.drew
  have hh := HH.out _ hz
  have hb := HBX.out.drew
  have hnn := HNN.out
  have hcc := hh.cells
  rw [hnn] at hcc
  go_region_held3 (fun V => V.cell? ⟨f, 1, none⟩ = some (.int .i64 1) ∧ V.cell? ⟨f, 2, none⟩ = some (.slice (some ⟨g, 0, none⟩) (a + m) scap) ∧ V.cell? ⟨bx, 0, none⟩ = some (.slice KA m kc)) (exact ⟨hcc.2.1, hcc.2.2, hb.cell 0⟩) (first | (go_at_call 30; refine (none_f _ hh).mono ?_; rintro e w3 ⟨rfl, rfl⟩))
  have hwa : IntKind.i64.wrap (a : Int) = (a : Int) := IntWalk.i64_in _ (by omega)
  clear hh hb hcc
  obtain ⟨W3, hW3⟩ : ∃ W3, W2.drew = W3 := ⟨_, rfl⟩
  have hzb : Fr0 W2 W2.drew := (Fr.refl (fun _ => False) W2).drew
  rw [hW3] at hz hzb ⊢
  clear hW3
  have hcc := (HH.out _ hz).cells
  rw [hnn] at hcc
  have c2 := hcc.2.2
  have b0 := (HBX.out.fr0 hzb).cell 0
  clear hcc
  go_wp2_with fail
  go_quiet (fail)
  have hz4 := hz.drewN nq
  have hzb4 := hzb.drewN nq
  obtain ⟨W4, hW4⟩ : ∃ W4, W3.drewN nq = W4 := ⟨_, rfl⟩
  rw [hW4] at hz4 hzb4 ⊢
  have HZ4 := Lib.hid hz4
  have HZB := Lib.hid hzb4
  clear hz hz4 hzb hzb4 c2 b0 hW4
  have b0 := (HBX.out.fr0 HZB.out).cell 0
  have hcc := (HH.out _ HZ4.out).cells
  rw [hnn] at hcc
  have c2 := hcc.2.2
  clear hcc
  go_wp2_with fail
  have HNE := Lib.hid hne
  clear hne
  go_loopw [53] (fun i wr => ∃ j : Nat, j ≤ m ∧ i = .int .i64 j ∧ W4 = wr ∧ (l.map Th.kind).take j = K.take j) (fun i _ => m - (intOf i).toNat)
  case atStart => exact ⟨0, by omega, rfl, rfl, rfl⟩
  case round =>
    obtain ⟨j, hj, rfl, rfl, hmt⟩ := hrel
    have HMT := Lib.hid hmt
    clear hmt
    by_cases hjm : j < m
    · have hjI : (j : Int) < (m : Int) := by omega
      have hj0 : (0 : Int) ≤ (j : Int) := by omega
      obtain ⟨_, A', c', e, hkc⟩ := HK2.out.fr0 HZB.out
      injection e with e e2 e3
      subst e
      clear e2 e3
      obtain ⟨kb, koff, eA, hkk⟩ := hkc (by omega)
      subst eA
      obtain ⟨x, hx⟩ : ∃ x, l[j]? = some x := ⟨_, List.getElem?_eq_getElem (by rw [HA.out.2]; exact hjm)⟩
      obtain ⟨k, hk⟩ : ∃ k, K[j]? = some k := ⟨_, List.getElem?_eq_getElem (by rw [HKL.out, HA.out.2]; exact hjm)⟩
      have e1 := hkk j (.int .i64 k) (by rw [List.getElem?_map, hk]; rfl)
      have hxx : (pre ++ l)[a + j]? = some x := by rw [← HA.out.1, List.getElem?_append_right (by omega), Nat.add_sub_cancel_left]; exact hx
      have e2 := ((HH.out _ HZ4.out).things hxx).1
      have hwj : IntKind.i64.wrap ((a : Int) + (j : Int)) = (a : Int) + (j : Int) := IntWalk.i64_in _ (by omega)
      have htn : ((a : Int) + (j : Int)).toNat = a + j := by omega
      have h0j : (0 : Int) ≤ (a : Int) + (j : Int) := by omega
      have hltI : (a : Int) + (j : Int) < (a : Int) + (m : Int) := by omega
      have HX := Lib.hid (And.intro hx hk)
      clear hx hxx hkk hkc hk
      obtain ⟨xk, hxk⟩ : ∃ xk, x.kind = xk := ⟨_, rfl⟩
      have HXK := Lib.hid hxk
      rw [hxk] at e2
      clear hxk
      by_cases hkx : xk = k
      · subst hkx
        go_wp2_with fail
        refine ⟨⟨j + 1, by omega, by push_cast; rfl, trivial, ?_⟩, by simp [intOf]; omega⟩
        rw [List.take_add_one, List.take_add_one, HMT.out, List.getElem?_map, HX.out.1, HX.out.2, Option.map_some, HXK.out]
      · have hbx : (xk == k) = false := by simpa using hkx
        go_wp2_with fail
        go_ret
        exact ⟨rfl, HZ4.out⟩
    · obtain rfl : j = m := by omega
      refine absurd ?_ HNE.out
      have := HMT.out
      rwa [List.take_of_length_le (by rw [List.length_map, HA.out.2]; exact Nat.le_refl _), List.take_of_length_le (by rw [HKL.out, HA.out.2]; exact Nat.le_refl _)] at this
set_option maxRecDepth 100000 in
set_option maxHeartbeats 8000000 in
theorem do_over (word : Int) (fn : FuncId) (K : List Int) (more : Int) (pre l : List Th) (w : World) (h : Fl w B f p (pre ++ l) g scap ts q cap tv) (hF : Finds word fn K more) (hK : l.map Th.kind = K) (hm1 : more = 1) (h64 : (pre ++ l).length = 64) :
    Calls Try.prog 12 #[.pointer (some ⟨f, 0, none⟩), .int .i64 word] w fun e w' => e = .returned (.int .i64 (-52)) ∧ Fr0 w w' := by
  have HM1 := Lib.hid hm1
  clear hm1
  have HH := Lib.hid (fun V (hV : Fr0 w V) => h.fr0 hV)
  have HIN := Lib.hid (show ∀ k, FlIn f p q tv g (pre ++ l) k → k < w.heap.size from fun k hk => (h.in_lo hk).2)
  have hscap : (pre ++ l).length ≤ scap := by
    obtain ⟨cs, _, h1, _⟩ := h.sk
    exact h1
  have HF := Lib.hid hF
  obtain ⟨a, ha⟩ : ∃ a, pre.length = a := ⟨_, rfl⟩
  obtain ⟨m, hm'⟩ : ∃ m, l.length = m := ⟨_, rfl⟩
  obtain ⟨n, hn⟩ : ∃ n, (pre ++ l).length = n := ⟨_, rfl⟩
  have hnam : n = a + m := by rw [← hn, List.length_append, ha, hm']
  have hKm : K.length = m := by rw [← hK, List.length_map, hm']
  have hdeep := h.deep
  rw [hn] at hdeep hscap h64
  subst hnam
  have H64 := Lib.hid h64
  clear h64
  have HNN := Lib.hid hn
  have HA := Lib.hid (And.intro ha hm')
  clear h hF hn
  go_enter Try.func12, Try.ntmps12
  go_wp2_with (go_at_call 33; refine (HF.out _).mono ?_; rintro e w1 ⟨kv, rfl, hf1, hk1⟩; obtain ⟨_, KA, kc, rfl, hkc⟩ := id hk1; rw [hKm] at hk1; rw [hKm]; have HK1 := Lib.hid hk1; have HF1 := Lib.hid hf1; clear hk1 hf1 hkc)
  have hfb := HF1.out.alloc (.cells #[.slice KA m kc, .int .i64 more, .func (.func fn) #[] #[]] 71)
  have hbx := Blk.new w1 71 #[.slice KA m kc, .int .i64 more, .func (.func fn) #[] #[]]
  obtain ⟨W2, hW2⟩ : ∃ W2, w1.alloc (.cells #[.slice KA m kc, .int .i64 more, .func (.func fn) #[] #[]] 71) = W2 := ⟨_, rfl⟩
  obtain ⟨bx, hbx'⟩ : ∃ bx, w1.heap.size = bx := ⟨_, rfl⟩
  have hk2 := HK1.out.fr0 ((Fr.refl (fun _ => False) w1).alloc (.cells #[.slice KA m kc, .int .i64 more, .func (.func fn) #[] #[]] 71))
  have hbl := HF1.out.size
  rw [hW2] at hfb hbx hk2 ⊢
  rw [hbx'] at hbx hbl ⊢
  have HFB := Lib.hid hfb
  have HBX := Lib.hid hbx
  have HK2 := Lib.hid hk2
  have HBL := Lib.hid hbl
  clear hfb hbx hk2 hW2 hbx' hbl
  go_wp2_with fail
  have hz : Fr0 w W2.drew := HFB.out.drew
  have hh := HH.out _ hz
  have hb := HBX.out.drew
  have hnn := HNN.out
  have hcc := hh.cells
  rw [hnn] at hcc
  go_region_held3 (fun V => V.cell? ⟨f, 1, none⟩ = some (.int .i64 1) ∧ V.cell? ⟨f, 2, none⟩ = some (.slice (some ⟨g, 0, none⟩) (a + m) scap) ∧ V.cell? ⟨bx, 0, none⟩ = some (.slice KA m kc)) (exact ⟨hcc.2.1, hcc.2.2, hb.cell 0⟩) (first | (go_at_call 30; refine (none_f _ hh).mono ?_; rintro e w3 ⟨rfl, rfl⟩))
  have hwa : IntKind.i64.wrap (a : Int) = (a : Int) := IntWalk.i64_in _ (by omega)
  clear hh hb hcc
  obtain ⟨W3, hW3⟩ : ∃ W3, W2.drew = W3 := ⟨_, rfl⟩
  have hzb : Fr0 W2 W2.drew := (Fr.refl (fun _ => False) W2).drew
  rw [hW3] at hz hzb ⊢
  clear hW3
  have hcc := (HH.out _ hz).cells
  rw [hnn] at hcc
  have c2 := hcc.2.2
  have b0 := (HBX.out.fr0 hzb).cell 0
  clear hcc
  go_wp2_with fail
  go_quiet (fail)
  have hz4 := hz.drewN nq
  have hzb4 := hzb.drewN nq
  obtain ⟨W4, hW4⟩ : ∃ W4, W3.drewN nq = W4 := ⟨_, rfl⟩
  rw [hW4] at hz4 hzb4 ⊢
  have HZ4 := Lib.hid hz4
  have HZB := Lib.hid hzb4
  clear hz hz4 hzb hzb4 c2 b0 hW4
  have b0 := (HBX.out.fr0 HZB.out).cell 0
  have hcc := (HH.out _ HZ4.out).cells
  rw [hnn] at hcc
  have c2 := hcc.2.2
  clear hcc
  go_wp2_with fail
  obtain rfl := HM1.out
  go_loopw [53] (fun i wr => ∃ j : Nat, j ≤ m ∧ i = .int .i64 j ∧ W4 = wr) (fun i _ => m - (intOf i).toNat)
  case atStart => exact ⟨0, by omega, rfl, rfl⟩
  case round =>
    obtain ⟨j, hj, rfl, rfl⟩ := hrel
    by_cases hjm : j < m
    · have hjI : (j : Int) < (m : Int) := by omega
      have hj0 : (0 : Int) ≤ (j : Int) := by omega
      obtain ⟨_, A', c', e, hkc⟩ := HK2.out.fr0 HZB.out
      injection e with e e2 e3
      subst e
      clear e2 e3
      obtain ⟨kb, koff, eA, hkk⟩ := hkc (by omega)
      subst eA
      obtain ⟨x, hx⟩ : ∃ x, l[j]? = some x := ⟨_, List.getElem?_eq_getElem (by rw [HA.out.2]; exact hjm)⟩
      have e1 := hkk j (.int .i64 x.kind) (by rw [← hK, List.getElem?_map, List.getElem?_map, hx]; rfl)
      have hxx : (pre ++ l)[a + j]? = some x := by rw [← HA.out.1, List.getElem?_append_right (by omega), Nat.add_sub_cancel_left]; exact hx
      have e2 := ((HH.out _ HZ4.out).things hxx).1
      have hwj : IntKind.i64.wrap ((a : Int) + (j : Int)) = (a : Int) + (j : Int) := IntWalk.i64_in _ (by omega)
      have htn : ((a : Int) + (j : Int)).toNat = a + j := by omega
      have h0j : (0 : Int) ≤ (a : Int) + (j : Int) := by omega
      have hltI : (a : Int) + (j : Int) < (a : Int) + (m : Int) := by omega
      clear hx hxx hkk hkc
      go_wp2_with fail
      exact ⟨⟨j + 1, by omega, by push_cast; rfl, trivial⟩, by simp [intOf]; omega⟩
    · obtain rfl : j = m := by omega
      clear b0
      have hcc := (HH.out _ HZ4.out.drew).cells
      rw [hnn] at hcc
      have hb := HBX.out.fr0 HZB.out.drew
      have hw65 : IntKind.i64.wrap ((a : Int) + (j : Int) + 1) = (a : Int) + (j : Int) + 1 := IntWalk.i64_in _ (by omega)
      have hd64 : decide (64 < a + j + 1) = true := decide_eq_true (by have := H64.out; omega)
      have hd65 : decide ((64 : Int) < (a : Int) + (j : Int) + 1) = true := decide_eq_true (by have := H64.out; omega)
      go_wp2_with fail
      go_region_held3 (fun V => V.cell? ⟨bx, 1, none⟩ = some (.int .i64 1) ∧ V.cell? ⟨f, 2, none⟩ = some (.slice (some ⟨g, 0, none⟩) (a + j) scap)) (exact ⟨hb.cell 1, hcc.2.2⟩) (fail)
      go_wp2_with fail
      go_ret
      exact ⟨rfl, HZ4.out.drew⟩
end
end Go.Proofs.Ytoldegajbonliaa
