/- Flow: Do, whatever the word (it lays nothing). -/
import Derived.Test.YtoldegajbonliaaFdo
import Derived.Laws.EntriesVeiled
import Derived.ArgAppend
namespace Go.Proofs.Ytoldegajbonliaa
open Go Go.RowKit
set_option linter.unusedVariables false
attribute [local go_sem] Oper.semAt_some

section
variable {w w' : World} {B f p g scap q cap : Nat} {tv tv' lv : Value} {ts ts' : List Tk} {st l : List Th} {T : Nat → Prop}
set_option maxRecDepth 100000 in
set_option maxHeartbeats 8000000 in
theorem do_none (word : Int) (fn : FuncId) (K : List Int) (more : Int) (pre l : List Th) (N : List Th → List Th → Prop) (w : World) (h : Fl w B f p (pre ++ l) g scap ts q cap tv) (hcf : ∀ (W : World) (args : Array Value), (callFunc fn args).run Try.prog W = .ok (Next.enter fn args) W)
    (hF : Finds word fn K more) (hK : l.map Th.kind = K) (hm : more = 0 ∨ more = 1 ∧ (pre ++ l).length < 64) (hN : ∀ pre' news, N pre' news → news = []) (hD : DoesF fn w B f p pre l N g scap ts ts' q cap tv) :
    Calls Try.prog 12 #[.pointer (some ⟨f, 0, none⟩), .int .i64 word] w fun e w' => e = .returned (.int .i64 0) ∧ ∃ pre' scap' tv', N pre' [] ∧ Fl w' B f p pre' g scap' ts' q cap tv' ∧ Turn (FlIn f p q tv g (pre ++ l)) (FlIn f p q tv' g pre') w w' := by
  have HH := Lib.hid (fun V (hV : Fr0 w V) => h.fr0 hV)
  have HD := Lib.hid hD
  have HIN := Lib.hid (show ∀ k, FlIn f p q tv g (pre ++ l) k → k < w.heap.size from fun k hk => (h.in_lo hk).2)
  have hscap : (pre ++ l).length ≤ scap := by
    obtain ⟨cs, _, h1, _⟩ := h.sk
    exact h1
  have HF := Lib.hid hF
  obtain ⟨a, ha⟩ : ∃ a, pre.length = a := ⟨_, rfl⟩
  obtain ⟨m, hm'⟩ : ∃ m, l.length = m := ⟨_, rfl⟩
  obtain ⟨n, hn⟩ : ∃ n, (pre ++ l).length = n := ⟨_, rfl⟩
  have hnam : n = a + m := by rw [← hn, List.length_append, ha, hm']
  have hKm : K.length = m := by rw [← hK, List.length_map, hm']
  have hdeep := h.deep
  rw [hn] at hdeep hm hscap
  subst hnam
  have HNN := Lib.hid hn
  have HA := Lib.hid (And.intro ha hm')
  clear h hD hF hn
  go_enter Try.func12, Try.ntmps12
  go_wp2_with (go_at_call 33; refine (HF.out _).mono ?_; rintro e w1 ⟨kv, rfl, hf1, hk1⟩; obtain ⟨_, KA, kc, rfl, hkc⟩ := id hk1; rw [hKm] at hk1; rw [hKm]; have HK1 := Lib.hid hk1; have HF1 := Lib.hid hf1; clear hk1 hf1 hkc)
  have hfb := HF1.out.alloc (.cells #[.slice KA m kc, .int .i64 more, .func (.func fn) #[] #[]] 71)
  have hbx := Blk.new w1 71 #[.slice KA m kc, .int .i64 more, .func (.func fn) #[] #[]]
  obtain ⟨W2, hW2⟩ : ∃ W2, w1.alloc (.cells #[.slice KA m kc, .int .i64 more, .func (.func fn) #[] #[]] 71) = W2 := ⟨_, rfl⟩
  obtain ⟨bx, hbx'⟩ : ∃ bx, w1.heap.size = bx := ⟨_, rfl⟩
  have hk2 := HK1.out.fr0 ((Fr.refl (fun _ => False) w1).alloc (.cells #[.slice KA m kc, .int .i64 more, .func (.func fn) #[] #[]] 71))
  have hbl := HF1.out.size
  rw [hW2] at hfb hbx hk2 ⊢
  rw [hbx'] at hbx hbl ⊢
  have HFB := Lib.hid hfb
  have HBX := Lib.hid hbx
  have HK2 := Lib.hid hk2
  have HBL := Lib.hid hbl
  clear hfb hbx hk2 hW2 hbx' hbl
  go_wp2_with fail
  have hz : Fr0 w W2.drew := HFB.out.drew
  have hh := HH.out _ hz
  have hb := HBX.out.drew
  have hnn := HNN.out
  have hcc := hh.cells
  rw [hnn] at hcc
  go_region_held3 (fun V => V.cell? ⟨f, 1, none⟩ = some (.int .i64 1) ∧ V.cell? ⟨f, 2, none⟩ = some (.slice (some ⟨g, 0, none⟩) (a + m) scap) ∧ V.cell? ⟨bx, 0, none⟩ = some (.slice KA m kc)) (exact ⟨hcc.2.1, hcc.2.2, hb.cell 0⟩) (first | (go_at_call 30; refine (none_f _ hh).mono ?_; rintro e w3 ⟨rfl, rfl⟩))
  have hwa : IntKind.i64.wrap (a : Int) = (a : Int) := IntWalk.i64_in _ (by omega)
  clear hh hb hcc
  obtain ⟨W3, hW3⟩ : ∃ W3, W2.drew = W3 := ⟨_, rfl⟩
  have hzb : Fr0 W2 W2.drew := (Fr.refl (fun _ => False) W2).drew
  rw [hW3] at hz hzb ⊢
  clear hW3
  have hcc := (HH.out _ hz).cells
  rw [hnn] at hcc
  have c2 := hcc.2.2
  have b0 := (HBX.out.fr0 hzb).cell 0
  clear hcc
  go_wp2_with fail
  go_quiet (fail)
  have hz4 := hz.drewN nq
  have hzb4 := hzb.drewN nq
  obtain ⟨W4, hW4⟩ : ∃ W4, W3.drewN nq = W4 := ⟨_, rfl⟩
  rw [hW4] at hz4 hzb4 ⊢
  have HZ4 := Lib.hid hz4
  have HZB := Lib.hid hzb4
  clear hz hz4 hzb hzb4 c2 b0 hW4
  have b0 := (HBX.out.fr0 HZB.out).cell 0
  have hcc := (HH.out _ HZ4.out).cells
  rw [hnn] at hcc
  have c2 := hcc.2.2
  clear hcc
  go_wp2_with fail
  go_loopw [53] (fun i wr => ∃ j : Nat, j ≤ m ∧ i = .int .i64 j ∧ W4 = wr) (fun i _ => m - (intOf i).toNat)
  case atStart => exact ⟨0, by omega, rfl, rfl⟩
  case round =>
    obtain ⟨j, hj, rfl, rfl⟩ := hrel
    by_cases hjm : j < m
    · have hjI : (j : Int) < (m : Int) := by omega
      have hj0 : (0 : Int) ≤ (j : Int) := by omega
      obtain ⟨_, A', c', e, hkc⟩ := HK2.out.fr0 HZB.out
      injection e with e e2 e3
      subst e
      clear e2 e3
      obtain ⟨kb, koff, eA, hkk⟩ := hkc (by omega)
      subst eA
      obtain ⟨x, hx⟩ : ∃ x, l[j]? = some x := ⟨_, List.getElem?_eq_getElem (by rw [HA.out.2]; exact hjm)⟩
      have e1 := hkk j (.int .i64 x.kind) (by rw [← hK, List.getElem?_map, List.getElem?_map, hx]; rfl)
      have hxx : (pre ++ l)[a + j]? = some x := by rw [← HA.out.1, List.getElem?_append_right (by omega), Nat.add_sub_cancel_left]; exact hx
      have e2 := ((HH.out _ HZ4.out).things hxx).1
      have hwj : IntKind.i64.wrap ((a : Int) + (j : Int)) = (a : Int) + (j : Int) := IntWalk.i64_in _ (by omega)
      have htn : ((a : Int) + (j : Int)).toNat = a + j := by omega
      have h0j : (0 : Int) ≤ (a : Int) + (j : Int) := by omega
      have hltI : (a : Int) + (j : Int) < (a : Int) + (m : Int) := by omega
      clear hx hxx hkk hkc
      go_wp2_with fail
      exact ⟨⟨j + 1, by omega, by push_cast; rfl, trivial⟩, by simp [intOf]; omega⟩
    · obtain rfl : j = m := by omega
      clear b0
      have hcc := (HH.out _ HZ4.out.drew).cells
      rw [hnn] at hcc
      have hb := HBX.out.fr0 HZB.out.drew
      have hw65 : IntKind.i64.wrap ((a : Int) + (j : Int) + 1) = (a : Int) + (j : Int) + 1 := IntWalk.i64_in _ (by omega)
      rcases hm with rfl | ⟨rfl, h64⟩
      · have b1 := (HBX.out.fr0 HZB.out).cell 1
        clear hcc hb
        go_wp2_with fail
        go_quiet (fail)
        have hz5 := HZ4.out.drewN nq
        have hzb5 := HZB.out.drewN nq
        obtain ⟨W5, hW5⟩ : ∃ W5, W4.drewN nq = W5 := ⟨_, rfl⟩
        rw [hW5] at hz5 hzb5 ⊢
        have HZ5 := Lib.hid hz5
        have HZB5 := Lib.hid hzb5
        clear hz5 hzb5 hW5 b1 c2
        go_wp2_with fail
        have hz6 := HZ5.out.drew
        have hh := HH.out _ hz6
        have hcc := hh.cells
        rw [hnn] at hcc
        have hb := HBX.out.fr0 HZB5.out.drew
        obtain ⟨AA, hAA⟩ : ∃ AA, (if scap = a then some (⟨g, 0, none⟩ : Addr) else some ⟨g, a * 3, none⟩) = AA := ⟨_, rfl⟩
        have hin : ∀ c, In_ W5.drew g (pre ++ l) (.slice AA j c) l := fun c => by
          rw [← hAA]
          have h1 := hh.into c
          rw [HA.out.1, HA.out.2] at h1
          by_cases hs : scap = a
          · rw [if_pos hs]
            have hj0 : l = [] := List.eq_nil_of_length_eq_zero (by rw [HA.out.2]; omega)
            exact ⟨⟨pre, 0, c, rfl, by rw [HA.out.2], .inl hj0⟩⟩
          · rw [if_neg hs]
            exact h1
        have ha0 : (0 : Int) ≤ (a : Int) := by omega
        have haj : (a : Int) ≤ (a : Int) + (j : Int) := by omega
        have hscI : (a : Int) ≤ (scap : Int) := by omega
        have hajn : a + j - a = j := by omega
        have HIF := Lib.hid hin
        have HHH := Lib.hid hh
        have hcc2 := hcc.2.2
        have hb2 := hb.cell 2
        clear hin hh hcc hb
        go_region_held3 (fun V => V.cell? ⟨bx, 2, none⟩ = some (.func (.func fn) #[] #[]) ∧ V.cell? ⟨f, 2, none⟩ = some (.slice (some ⟨g, 0, none⟩) (a + j) scap)) (first | exact ⟨hb2, hcc2⟩ | exact ⟨hb3, hc3⟩) (first | (refine (HD.out _ _ hz6 (HIF.out _)).mono ?_; rintro e w6 ⟨nv, pre', l', news, rfl, hNN, hpl1, hpl2, ho, tv2, h6, t6⟩; have hc3 := h6.cells.2.2; rw [List.length_append, hpl1, hpl2, HA.out.1, HA.out.2] at hc3; have hb3 := ((HBX.out.fr0 HZB5.out.drew).fr t6.1 (fun e => by have := HIN.out _ e; have := HBL.out; omega)).cell 2))
        have HO := Lib.hid ho
        have H6 := Lib.hid h6
        have T6 := Lib.hid t6
        have HZ6 := Lib.hid hz6
        clear ho h6 t6 hz6 hb2 hcc2 hb3
        have hn0 := hN _ _ hNN
        subst hn0
        obtain rfl := HO.out.nil0 rfl
        have y2 := H6.out.fo.frozen 2
        go_wp2_with fail
        go_ret
        have hcut := H6.out.cut
        rw [hpl1, HA.out.1] at hcut
        exact ⟨rfl, _, _, _, hNN, hcut.1, ((Turn.of0 HZ6.out).trans T6.out).trans hcut.2⟩
      · have hd64 : decide (64 < a + j + 1) = false := decide_eq_false (by omega)
        have hd65 : decide ((64 : Int) < (a : Int) + (j : Int) + 1) = false := decide_eq_false (by omega)
        go_wp2_with fail
        go_region_held3 (fun V => V.cell? ⟨bx, 1, none⟩ = some (.int .i64 1) ∧ V.cell? ⟨f, 2, none⟩ = some (.slice (some ⟨g, 0, none⟩) (a + j) scap)) (exact ⟨hb.cell 1, hcc.2.2⟩) (fail)
        have hz5 := HZ4.out.drew
        have hzb5 := HZB.out.drew
        obtain ⟨W5, hW5⟩ : ∃ W5, W4.drew = W5 := ⟨_, rfl⟩
        clear hcc hb
        rw [hW5] at hz5 hzb5 ⊢
        have HZ5 := Lib.hid hz5
        have HZB5 := Lib.hid hzb5
        clear hz5 hzb5 hW5
        go_wp2_with fail
        have hz6 := HZ5.out.drew
        have hh := HH.out _ hz6
        have hcc := hh.cells
        rw [hnn] at hcc
        have hb := HBX.out.fr0 HZB5.out.drew
        obtain ⟨AA, hAA⟩ : ∃ AA, (if scap = a then some (⟨g, 0, none⟩ : Addr) else some ⟨g, a * 3, none⟩) = AA := ⟨_, rfl⟩
        have hin : ∀ c, In_ W5.drew g (pre ++ l) (.slice AA j c) l := fun c => by
          rw [← hAA]
          have h1 := hh.into c
          rw [HA.out.1, HA.out.2] at h1
          by_cases hs : scap = a
          · rw [if_pos hs]
            have hj0 : l = [] := List.eq_nil_of_length_eq_zero (by rw [HA.out.2]; omega)
            exact ⟨⟨pre, 0, c, rfl, by rw [HA.out.2], .inl hj0⟩⟩
          · rw [if_neg hs]
            exact h1
        have ha0 : (0 : Int) ≤ (a : Int) := by omega
        have haj : (a : Int) ≤ (a : Int) + (j : Int) := by omega
        have hscI : (a : Int) ≤ (scap : Int) := by omega
        have hajn : a + j - a = j := by omega
        have HIF := Lib.hid hin
        have HHH := Lib.hid hh
        have hcc2 := hcc.2.2
        have hb2 := hb.cell 2
        clear hin hh hcc hb
        go_region_held3 (fun V => V.cell? ⟨bx, 2, none⟩ = some (.func (.func fn) #[] #[]) ∧ V.cell? ⟨f, 2, none⟩ = some (.slice (some ⟨g, 0, none⟩) (a + j) scap)) (first | exact ⟨hb2, hcc2⟩ | exact ⟨hb3, hc3⟩) (first | (refine (HD.out _ _ hz6 (HIF.out _)).mono ?_; rintro e w6 ⟨nv, pre', l', news, rfl, hNN, hpl1, hpl2, ho, tv2, h6, t6⟩; have hc3 := h6.cells.2.2; rw [List.length_append, hpl1, hpl2, HA.out.1, HA.out.2] at hc3; have hb3 := ((HBX.out.fr0 HZB5.out.drew).fr t6.1 (fun e => by have := HIN.out _ e; have := HBL.out; omega)).cell 2))
        have HO := Lib.hid ho
        have H6 := Lib.hid h6
        have T6 := Lib.hid t6
        have HZ6 := Lib.hid hz6
        clear ho h6 t6 hz6 hb2 hcc2 hb3
        have hn0 := hN _ _ hNN
        subst hn0
        obtain rfl := HO.out.nil0 rfl
        have y2 := H6.out.fo.frozen 2
        go_wp2_with fail
        go_ret
        have hcut := H6.out.cut
        rw [hpl1, HA.out.1] at hcut
        exact ⟨rfl, _, _, _, hNN, hcut.1, ((Turn.of0 HZ6.out).trans T6.out).trans hcut.2⟩
end
end Go.Proofs.Ytoldegajbonliaa
