/- The document's names: Walk, Mark, Back. -/
import Derived.Test.YtmhjnbolngdijaaRn4
namespace Go.Proofs.Ytmhjnbolngdijaa
open Go Go.RowKit
set_option linter.unusedVariables false
attribute [local go_sem] Oper.semAt_some

/-- The tokens of a list's words, the greatest first. -/
def wlk (l : Int) (ws : List Wd) (k : Nat) : List Int := (sel l (upto (bwW ws) k)).map fun x => (x.1.1 : Int) + 1
theorem wlk_len (l : Int) (ws : List Wd) (k : Nat) : (wlk l ws k).length ≤ k := by
  unfold wlk
  rw [List.length_map]
  exact Nat.le_trans (sel_len _ _) (by rw [upto_length]; exact Nat.le_refl _)
section
variable {w w' : World} {B c : Nat} {s : St} {S T : Nat → Prop}
theorem RnS.self (h : RnS w B c s S) : S c := by
  obtain ⟨_, _, _, _, _, _, _, _, hh⟩ := h
  rw [hh]
  exact .inl rfl
set_option maxRecDepth 100000 in
set_option maxHeartbeats 8000000 in
theorem Walk_rn (l : Int) (w : World) (h : RnS w B c s S) :
    Calls Try.prog 66 #[.pointer (some ⟨c, 0, none⟩), .int .i64 l] w fun e w' => ∃ u, e = .returned u ∧ OwnI w' w.heap.size u (wlk l s.ws s.ws.length) ∧ Fr0 w w' := by
  obtain ⟨lv, ov, h1, h2, h3, h4, h5, h6, hS⟩ := h
  obtain ⟨c0, c1, c2, c3⟩ := h1.cells
  obtain ⟨_, A, cap, hA, _⟩ := own_src h2
  subst hA
  obtain ⟨n, hn⟩ : ∃ n, s.ws.length = n := ⟨_, rfl⟩
  have HN := Lib.hid hn
  have H1 := Lib.hid h1
  have H2 := Lib.hid h2
  have H6 := Lib.hid h6
  have hn5 := h6.1
  rw [hn] at c0 H2 hn5 ⊢
  obtain ⟨i0, hi, hz0, hz1, hz2⟩ := info_parts infoI
  have HI := Lib.hid hi
  have HZ := Lib.hid (And.intro hz0 (And.intro hz1 hz2))
  clear h1 h2 h3 h6 hS hn hi hz0 hz1 hz2
  go_enter Try.func66, Try.ntmps66
  go_wp2_with fail
  go_loopw [5, 6] (fun u5 i wr => ∃ j : Nat, j ≤ n ∧ i = .int .i64 j ∧ OwnI wr w.heap.size u5 (wlk l s.ws (n - j)) ∧ Fr0 w wr) (fun _ i _ => (intOf i).toNat)
  case atStart => exact ⟨n, Nat.le_refl _, rfl, by rw [Nat.sub_self]; exact OwnI.nil _ _, Fr.refl _ _⟩
  case round =>
    obtain ⟨j, hj, rfl, hO, hfr⟩ := hrel
    cases j with
    | zero =>
      have HFR := Lib.hid hfr
      have HO := Lib.hid hO
      clear hO hfr
      go_wp2_with fail
      go_ret
      exact ⟨_, rfl, HO.out, HFR.out⟩
    | succ j =>
      obtain ⟨x, hx⟩ : ∃ x, s.ws[j]? = some x := ⟨_, List.getElem?_eq_getElem (by rw [HN.out]; omega)⟩
      have c0w := (hfr.cell (p := ⟨c, 0, none⟩) (RObj.blk H1.out).lt (fun x => x)).trans c0
      have h2w := own_fr H2.out hfr (fun _ _ x => x)
      rw [← HN.out] at h2w
      obtain ⟨b, cap', hA, _, d0, d1, d2, d3, d4⟩ := words_cells h2w hx
      rw [HN.out] at hA
      simp only [Value.slice.injEq, true_and] at hA
      obtain ⟨rfl, rfl⟩ := hA
      have x1 : IntKind.i64.wrap (((j + 1 : Nat) : Int) - 1) = (j : Int) := by rw [IntWalk.i64_in _ (by omega)]; omega
      have hjI : (j : Int) < (n : Int) := by omega
      have hj0 : (0 : Int) ≤ (j : Int) := by omega
      have hbw := bwW_eq (ws := s.ws) (k := n - (j + 1)) (j := j) (by rw [HN.out]; omega) hx (by rw [HN.out]; omega) (fun x hx => (H6.out.2 x hx).1)
      have hst : wlk l s.ws (n - j) = wlk l s.ws (n - (j + 1)) ++ if x.list = l then [(j : Int) + 1] else [] := by
        unfold wlk
        rw [show n - j = (n - (j + 1)) + 1 by omega, upto_succ]
        by_cases hl : x.list = l
        · rw [sel_yes (by rw [hbw]; exact hl), if_pos hl, List.map_append]
          simp [hbw]
        · rw [sel_no (by rw [hbw]; exact hl), if_neg hl, List.append_nil]
      obtain ⟨A5, cap5, rfl⟩ := hO.rd.form
      have hwl := wlk_len l s.ws (n - (j + 1))
      have HFR := Lib.hid hfr
      have HST := Lib.hid hst
      have HO := Lib.hid hO
      have HWL := Lib.hid (show (wlk l s.ws (n - (j + 1))).length ≤ 5000 by omega)
      clear hfr hst h2w hx hO hbw hwl
      rw [show ((j + 1 : Nat) : Int) = (j : Int) + 1 by push_cast; rfl] at x1 ⊢
      by_cases hl : x.list = l
      · rw [hl] at d2
        have hw := HST.out
        rw [if_pos hl] at hw
        have HW := Lib.hid hw
        have HOA := Lib.hid (HO.out.fr ((Fr.refl (fun _ => False) wr).alloc (.cells #[.int .i64 ((j : Int) + 1)] 3)) (fun _ _ x => x))
        have HHL := Lib.hid hl
        clear hw hl
        go_wp2_with (at_builtin; refine wpList_append_src (m := 1) (news := [.int .i64 ((j : Int) + 1)]) rfl (.tmp 27) (.tmp 29) rfl Try.underlying41 HI.out HZ.out.1 HZ.out.2.1 HZ.out.2.2 rfl (by decide) rfl rfl HOA.out (Rd.new wr #[.int .i64 ((j : Int) + 1)] rfl 1) (fun u hu => by simp at hu; subst hu; rfl) (by unfold maxLen; have := HWL.out; omega) (by have := HWL.out; omega) (by have := HFR.out.size; simp; omega) ?_; intro v6 w6 ho6 hg6 hk6; have HO6 := Lib.hid ho6; have HF6 := Lib.hid ((HFR.out.alloc (.cells #[.int .i64 ((j : Int) + 1)] 3)).grown hg6 (fun q hq => .inr (own_lo HOA.out q hq).1)); clear ho6 hg6 hk6)
        refine ⟨⟨j, by omega, rfl, ?_, HF6.out⟩, by simp [intOf]⟩
        rw [HW.out]
        unfold OwnI
        rw [List.length_append, List.map_append]
        exact HO6.out
      · have hq : (x.list == l) = false := by simp; exact hl
        have hw := HST.out
        rw [if_neg hl, List.append_nil] at hw
        have HW := Lib.hid hw
        have HHL := Lib.hid hl
        clear hw hl
        go_wp2_with fail
        exact ⟨⟨j, by omega, rfl, by rw [HW.out]; exact HO.out, HFR.out⟩, by simp [intOf]⟩

set_option maxRecDepth 100000 in
set_option maxHeartbeats 8000000 in
theorem Mark_rn (w : World) (h : RnS w B c s S) (hol : s.order.length ≤ 1000000) :
    Calls Try.prog 57 #[.pointer (some ⟨c, 0, none⟩)] w fun e w' => ∃ p M, e = .returned (.pointer (some ⟨p, 0, none⟩)) ∧ RnS w' w.heap.size p s M ∧ Fr0 w w' := by
  obtain ⟨lv, ov, h1, h2, h3, h4, h5, h6, hS⟩ := h
  obtain ⟨c0, c1, c2, c3⟩ := h1.cells
  obtain ⟨_, A1, cap1, hA, _⟩ := own_src h2
  obtain ⟨A2, cap2, hA2⟩ := h3.rd.form
  subst hA hA2
  obtain ⟨n1, hn1⟩ : ∃ n1, s.ws.length = n1 := ⟨_, rfl⟩
  obtain ⟨n2, hn2⟩ : ∃ n2, s.order.length = n2 := ⟨_, rfl⟩
  have HN1 := Lib.hid hn1
  have HN2 := Lib.hid hn2
  have HW0 := Lib.hid (own_src h2)
  have HO0 := Lib.hid (own_src h3)
  have H6 := Lib.hid h6
  have hn5 := h6.1
  rw [hn1] at c0 hn5 HW0
  rw [hn2] at c2 hol HO0
  obtain ⟨i0, hi, hz0, hz1, hz2⟩ := info_parts infoI
  obtain ⟨i1, hi1, z1, hz10, hz11, hz12, hz13⟩ := infoR5
  have HI := Lib.hid hi
  have HZ := Lib.hid (And.intro hz0 (And.intro hz1 hz2))
  have HI1 := Lib.hid hi1
  have HZ1 := Lib.hid (And.intro hz10 (And.intro hz11 (And.intro hz12 hz13)))
  have hcl := (RObj.blk h1).lt
  clear h1 h2 h3 h6 hS hn1 hn2 hi hz0 hz1 hz2 hi1 hz10 hz11 hz12 hz13
  go_enter Try.func57, Try.ntmps57
  go_wp2_with fail
  go_region
  go_upto_region 2 with fail
  have hf1 : Fr0 w ((w.alloc (.cells #[.slice none 0 0, .int .i64 s.lists, .slice none 0 0, .int .i64 s.cur] 67)).drew) := ((Fr.refl _ w).alloc _).drew
  have hb1 : Blk ((w.alloc (.cells #[.slice none 0 0, .int .i64 s.lists, .slice none 0 0, .int .i64 s.cur] 67)).drew) w.heap.size 67 #[.slice none 0 0, .int .i64 s.lists, .slice none 0 0, .int .i64 s.cur] := (Blk.new w _ _).drew
  have hz1 : ((w.alloc (.cells #[.slice none 0 0, .int .i64 s.lists, .slice none 0 0, .int .i64 s.cur] 67)).drew).heap.size = w.heap.size + 1 := by simp
  generalize ((w.alloc (.cells #[.slice none 0 0, .int .i64 s.lists, .slice none 0 0, .int .i64 s.cur] 67)).drew) = W1 at *
  have e0 := (hf1.cell (p := ⟨c, 0, none⟩) hcl (fun x => x)).trans c0
  have e2 := (hf1.cell (p := ⟨c, 2, none⟩) hcl (fun x => x)).trans c2
  have p0 := hb1.cell 0
  have p2 := hb1.cell 2
  have y0 := hb1.frozen 0
  have y2 := hb1.frozen 2
  have HF1 := Lib.hid hf1
  have HB1 := Lib.hid hb1
  have HZS := Lib.hid hz1
  have hp1 := hb1.lt
  have hc1 := Nat.lt_of_lt_of_le hcl hf1.size
  clear hf1 hb1 hz1 c0 c1 c2 c3
  have hpc : ¬ w.heap.size = c := by omega
  go_region_law (refine step_append_src (P := Try.prog) (t := 65) (e := 71) (size := 5) (n := 0) (m := n1) (base := W1.heap.size) (i := i1) (z := z1) (bytes := 40) (v := .slice none 0 0) (xs := []) (news := s.ws.flatMap Wd.cells) rfl (.tmp 18) (.tmp 22) rfl Try.underlying65 HI1.out HZ1.out.1 HZ1.out.2.2.1 HZ1.out.2.2.2 HZ1.out.2.1 (by decide) rfl rfl (World.ownsRow_nil _ _ _ _) ((HW0.out.fr0 HF1.out).fr0 (Fr.refl _ W1).drew) wcells_one (by unfold maxLen; omega) (by omega) (Nat.le_refl _) ?_; intro v2 w3 ho2 hg2 hk2; simp only [Nat.zero_add, List.nil_append] at ho2; have HO2 := Lib.hid ho2; obtain ⟨_, A3, cap3, rfl, _⟩ := own_src ho2; have hf2 := ((Fr.refl (fun _ => False) W1).drew).grown hg2 (fun k hk => by cases hk); have HF2 := Lib.hid hf2; have b0 := (hf2.cell (p := ⟨w.heap.size, 0, none⟩) hp1 (fun x => x)).trans p0; have b1 := (hf2.frozen (p := ⟨w.heap.size, 0, none⟩) hp1 (fun x => x)).trans y0; clear ho2 hg2 hk2 hf2)
  all_goals
    have hb2 := (HB1.out.fr0 HF2.out).set_ 0 (.slice A3 n1 cap3)
    simp only [List.setIfInBounds_toArray, List.set_cons_zero] at hb2
    have hff := (Fr.refl (fun k => k = w.heap.size) w3).setCell (p := ⟨w.heap.size, 0, none⟩) (.inl rfl) (.slice A3 n1 cap3)
    have hu2 : ∀ k, (Value.slice A3 n1 cap3).ownBlock = some k → W1.heap.size ≤ k := fun k hk => (own_lo HO2.out k hk).1
    have ho2 := own_fr HO2.out hff (fun k hk e => by have := hu2 k hk; have := HZS.out; omega)
    have hf2 : Fr0 w (w3.setCell ⟨w.heap.size, 0, none⟩ (.slice A3 n1 cap3)) := (HF1.out.trans HF2.out).then hff (fun k hk e => by omega)
    have hz2 : W1.heap.size ≤ (w3.setCell ⟨w.heap.size, 0, none⟩ (.slice A3 n1 cap3)).heap.size := Nat.le_trans HF2.out.size hff.size
    generalize (w3.setCell ⟨w.heap.size, 0, none⟩ (.slice A3 n1 cap3)) = W2 at *
    have e2' := (hf2.cell (p := ⟨c, 2, none⟩) hcl (fun x => x)).trans ((HF1.out.cell (p := ⟨c, 2, none⟩) hcl (fun x => x)).symm.trans e2)
    have q2 := hb2.cell 2
    have z2 := hb2.frozen 2
    have hp2 := hb2.lt
    have HF3 := Lib.hid hf2
    have HB3 := Lib.hid hb2
    have HO3 := Lib.hid ho2
    have HU2 := Lib.hid hu2
    clear hf2 hb2 ho2 hu2 hff b0 b1 e0 e2 p0 p2 y0 y2
    go_upto_region 3 with fail
    go_region_law (refine step_append_src (P := Try.prog) (t := 41) (e := 3) (size := 1) (n := 0) (m := n2) (base := W2.heap.size) (i := i0) (z := .int .i64 0) (bytes := 8) (v := .slice none 0 0) (xs := []) (news := s.order.map (Value.int .i64)) rfl (.tmp 30) (.tmp 34) rfl Try.underlying41 HI.out HZ.out.1 HZ.out.2.1 HZ.out.2.2 rfl (by decide) rfl rfl (World.ownsRow_nil _ _ _ _) ((HO0.out.fr0 HF3.out).fr0 (Fr.refl _ W2).drew) (fun u hu => by obtain ⟨y, _, rfl⟩ := List.mem_map.1 hu; rfl) (by unfold maxLen; omega) (by omega) (Nat.le_refl _) ?_; intro v4 w4 ho4 hg4 hk4; simp only [Nat.zero_add, List.nil_append] at ho4; have HO4 := Lib.hid ho4; obtain ⟨_, A4, cap4, rfl, _⟩ := own_src ho4; have hf4 := ((Fr.refl (fun _ => False) W2).drew).grown hg4 (fun k hk => by cases hk); have HF4 := Lib.hid hf4; have b0 := (hf4.cell (p := ⟨w.heap.size, 2, none⟩) hp2 (fun x => x)).trans q2; have b1 := (hf4.frozen (p := ⟨w.heap.size, 2, none⟩) hp2 (fun x => x)).trans z2; clear ho4 hg4 hk4 hf4)
  all_goals
    go_wp2_with fail
    go_ret
    have hb5 := (HB3.out.fr0 HF4.out).set_ 2 (.slice A4 n2 cap4)
    simp only [List.setIfInBounds_toArray, List.set_cons_succ, List.set_cons_zero] at hb5
    have hff := (Fr.refl (fun k => k = w.heap.size) w4).setCell (p := ⟨w.heap.size, 2, none⟩) (.inl rfl) (.slice A4 n2 cap4)
    have hu4 : ∀ k, (Value.slice A4 n2 cap4).ownBlock = some k → W2.heap.size ≤ k := fun k hk => (own_lo HO4.out k hk).1
    have hzs := HZS.out
    have hz5 := HF4.out.size
    have hz6 := hff.size
    have hw5 := own_mono (own_fr (own_fr HO3.out HF4.out (fun _ _ x => x)) hff (fun k hk e => by have := HU2.out k hk; omega)) (show w.heap.size ≤ W1.heap.size by omega)
    have ho5 := own_mono (own_fr HO4.out hff (fun k hk e => by have := hu4 k hk; omega)) (show w.heap.size ≤ W2.heap.size by omega)
    rw [← HN1.out] at hw5 hb5
    refine ⟨w.heap.size, _, rfl, ⟨_, _, hb5, ?_, ?_, Nat.le_refl _, by omega, H6.out, rfl⟩, (HF3.out.trans HF4.out).then hff (fun k hk e => by omega)⟩
    · exact hw5
    · unfold OwnI
      rw [HN2.out]
      exact ho5

set_option maxRecDepth 100000 in
set_option maxHeartbeats 8000000 in
theorem Back_rn {p Bm : Nat} {t : St} {M : Nat → Prop} (w : World) (h : RnS w B c s S) (hm : RnS w Bm p t M) (hol : t.order.length ≤ 1000000) :
    Calls Try.prog 58 #[.pointer (some ⟨c, 0, none⟩), .pointer (some ⟨p, 0, none⟩)] w fun e w' => e = .returned (.int .i64 (backV s t)) ∧ ∃ S', RnS w' B c (backSt s t) S' ∧ Turn S S' w w' := by
  have HH := Lib.hid h
  have HMK := Lib.hid (fun V (hV : Fr0 w V) => Mark_rn V (hm.fr0 hV) hol)
  obtain ⟨lv, ov, h1, h2, h3, h4, h5, h6, hS⟩ := h
  obtain ⟨lv', ov', m1, m2, m3, m4, m5, m6, hM⟩ := hm
  obtain ⟨c0, c1, _, _⟩ := h1.cells
  obtain ⟨p0, p1, _, _⟩ := m1.cells
  obtain ⟨_, A1, cap1, hA, _⟩ := own_src h2
  obtain ⟨_, A2, cap2, hA2, _⟩ := own_src m2
  subst hA hA2
  obtain ⟨n, hn⟩ : ∃ n, s.ws.length = n := ⟨_, rfl⟩
  obtain ⟨k, hk⟩ : ∃ k, t.ws.length = k := ⟨_, rfl⟩
  have H1 := Lib.hid h1
  have HS := Lib.hid hS
  unfold backV backSt
  rw [hn] at c0
  rw [hk] at p0
  rw [hn, hk]
  have hcl := (RObj.blk h1).lt
  clear h1 h2 h3 h6 hS m1 m2 m3 m6 hM hn hk
  by_cases q1 : n < k
  · rw [if_pos (.inl q1), if_pos (.inl q1)]
    have hd : decide (n < k) = true := decide_eq_true q1
    go_enter Try.func58, Try.ntmps58
    go_wp2_with fail
    go_quiet (fail)
    go_wp2_with fail
    go_ret
    exact ⟨rfl, S, HH.out.fr0 ((Fr.refl _ _).drewN _), Turn.of0 ((Fr.refl _ _).drewN _)⟩
  · have hd : decide (n < k) = false := decide_eq_false q1
    by_cases q2 : s.lists < t.lists
    · rw [if_pos (.inr q2), if_pos (.inr q2)]
      have hd2 : decide (s.lists < t.lists) = true := decide_eq_true q2
      go_enter Try.func58, Try.ntmps58
      go_wp2_with fail
      go_quiet (fail)
      go_wp2_with fail
      go_ret
      exact ⟨rfl, S, HH.out.fr0 ((Fr.refl _ _).drewN _), Turn.of0 ((Fr.refl _ _).drewN _)⟩
    · rw [if_neg (by omega), if_neg (by omega)]
      have hd2 : decide (s.lists < t.lists) = false := decide_eq_false q2
      go_enter Try.func58, Try.ntmps58
      go_wp2_with fail
      go_quiet (fail)
      clear hd hd2 c0 c1 p0 p1
      go_wp2_with fail
      go_at_call 57
      refine (HMK.out _ ((Fr.refl _ _).drewN _)).mono ?_
      rintro e w2 ⟨g, G, rfl, hG, hf2⟩
      have hfa : Fr0 w w2 := ((Fr.refl _ _).drewN _).trans hf2
      have HFA := Lib.hid hfa
      have hgl : w.heap.size ≤ g := (hG.lo hG.self).1
      obtain ⟨u, v, g1, g2, g3, g4, g5, g6, _⟩ := hG
      obtain ⟨_, A5, cap5, rfl, _⟩ := own_src g2
      obtain ⟨A6, cap6, rfl⟩ := g3.rd.form
      have hob := Blk.fr0 H1.out hfa
      have y0 := hob.frozen 0
      have y1 := hob.frozen 1
      have y2 := hob.frozen 2
      have y3 := hob.frozen 3
      have x0 := hob.cell 0
      have x1 := hob.cell 1
      have x2 := hob.cell 2
      have x3 := hob.cell 3
      have r0 := g1.cells.1
      have r1 := g1.cells.2.1
      have r2 := g1.cells.2.2.1
      have r3 := g1.cells.2.2.2
      have hne : ¬ c = g := by omega
      have hne2 : ¬ g = c := by omega
      have HOB := Lib.hid hob
      have G2 := Lib.hid g2
      have G3 := Lib.hid g3
      have G6 := Lib.hid g6
      have HGL := Lib.hid hgl
      clear hfa hf2 g1 g2 g3 g6 hob hgl
      go_wp2_with fail
      go_ret
      have hb := (((HOB.out.set_ 0 (.slice A5 t.ws.length cap5)).set_ 1 (.int .i64 t.lists)).set_ 2 (.slice A6 t.order.length cap6)).set_ 3 (.int .i64 t.cur)
      simp only [List.setIfInBounds_toArray, List.set_cons_succ, List.set_cons_zero] at hb
      have hff := ((((Fr.refl (fun q => q = c) w2).setCell (p := ⟨c, 0, none⟩) (.inl rfl) (.slice A5 t.ws.length cap5)).setCell (p := ⟨c, 1, none⟩) (.inl rfl) (.int .i64 t.lists)).setCell (p := ⟨c, 2, none⟩) (.inl rfl) (.slice A6 t.order.length cap6)).setCell (p := ⟨c, 3, none⟩) (.inl rfl) (.int .i64 t.cur)
      have hul : ∀ q, (Value.slice A5 t.ws.length cap5).ownBlock = some q → w.heap.size ≤ q := fun q hq => (own_lo G2.out q hq).1
      have hvl : ∀ q, (Value.slice A6 t.order.length cap6).ownBlock = some q → w.heap.size ≤ q := fun q hq => (own_lo G3.out q hq).1
      have hz := HFA.out.size
      have hz2 := hff.size
      refine ⟨rfl, _, ⟨_, _, hb, own_mono (own_fr G2.out hff (fun q hq e => by have := hul q hq; omega)) h5, own_mono (own_fr G3.out hff (fun q hq e => by have := hvl q hq; omega)) h5, h4, by omega, G6.out, rfl⟩, HFA.out.of0.trans (hff.mono (fun q _ e => by rw [HS.out]; exact .inl e)), fun q hq => ?_⟩
      rw [HS.out]
      rcases hq with h | h | h
      · exact .inl (.inl h)
      · exact .inr (hul q h)
      · exact .inr (hvl q h)
end
end Go.Proofs.Ytmhjnbolngdijaa
